/- FnBooked returns true for all arguments, and leaves them as they were. No condition. -/
import Derived.Test.YtlgodbjbllpipaaDrawEnt
import Derived.Test.YtlgodbjbllpipaaEvent
import Derived.Deep.DeepCutAuto
import Derived.Test.YtlgodbjbllpipaaSEntry
import Derived.Test.YtlgodbjbllpipaaLess
import Derived.Test.YtlgodbjbllpipaaDocC
import Derived.Test.YtlgodbjbllpipaaPost
import Derived.Test.YtlgodbjbllpipaaAreBk
import Derived.Test.YtlgodbjbllpipaaLayD
import Derived.Test.YtlgodbjbllpipaaShelfOf
import Derived.Test.YtlgodbjbllpipaaLayC
import Derived.Test.YtlgodbjbllpipaaBkP
import Derived.Test.YtlgodbjbllpipaaLay5
import Derived.Test.YtlgodbjbllpipaaBkEvM
import Derived.Test.YtlgodbjbllpipaaShelfA
import Derived.Laws.StructEq
import Derived.Test.YtlgodbjbllpipaaOpen
import Derived.Test.YtlgodbjbllpipaaDraw2
import Derived.Test.YtlgodbjbllpipaaShelfB
namespace Go.Proofs.Ytlgodbjbllpipaa
open Go.ChangeShapes Go.WideShapes Go.ChangeAt Go.RowKit

theorem blk_grown {w w' : World} {g x : Nat} {o : Obj} (hg : w.grownBy w' (some g)) (h : w.heap[x]? = some o) (hne : x ≠ g) : w'.heap[x]? = some o :=
  (hg.block x (Array.getElem?_eq_some_iff.1 h).1 (by simpa using hne)).trans h
theorem grown_setNew' {w w' : World} {row : Option Nat} (h : w.grownBy w' row) {p : Addr} (hp : w.heap.size ≤ p.block) (v : Value) : w.grownBy (w'.setCell p v) row :=
  ⟨h.os, h.tape, h.output, by simpa [World.setCell] using h.size, fun k hk hne => (Below.heap_setCell w' p v k (by omega)).trans (h.block k hk hne)⟩
theorem cur_setNew' {w : World} {g : Nat} (h : Cur w g) {p : Addr} (hp : g < p.block) (v : Value) : Cur (w.setCell p v) g := by
  obtain ⟨A, n, c, i, x, bs, hh, hr, h1, h2, h3, h4⟩ := h
  refine ⟨A, n, c, i, x, bs, (Below.heap_setCell w p v g (by omega)).trans hh, hr.grown (grown_set w p v) (fun a e hn he => ?_), h1, h2, h3, h4⟩
  have := h4 a e hn
  injection he with he
  omega
/-- An event that was drawn. -/
def evShort (e : Ev) : Prop := evOk e ∧ e.item.size ≤ 12
/-- An event in the making: the result's cell, the box, the cursor. -/
structure EvW (w : World) (g x : Nat) (w' : World) (e : Ev) : Prop where
  gx : g < w.heap.size
  wx : w.heap.size < x
  sz : x < w'.heap.size
  res : w'.heap[w.heap.size]? = some (.cells #[.int .i64 0, .int .i64 0, .int .i64 0, .string ⟨#[]⟩, .int .i64 0, .int .i64 0, .int .i64 0] 44 (0, 0))
  box : w'.heap[x]? = some (.cells #[.int .i64 e.id, .int .i64 e.day, .int .i64 e.kind, .string e.item, .int .i64 e.q, .int .i64 e.a, .int .i64 e.r] 44 (0, 0))
  gr : w.grownBy w' (some g)
  cur : Cur w' g
  ok : evShort e
namespace EvW
variable {w w1 w2 : World} {g x : Nat} {e : Ev}
theorem call (h : EvW w g x w1 e) (hg : w1.grownBy w2 (some g)) (hc : Cur w2 g) : EvW w g x w2 e :=
  ⟨h.gx, h.wx, Nat.lt_of_lt_of_le h.sz hg.size, blk_grown hg h.res (by have := h.gx; omega), blk_grown hg h.box (by have := h.gx; have := h.wx; omega), h.gr.trans hg, hc, h.ok⟩
theorem below (h : EvW w g x w1 e) (hb : Below w1.heap.size w1 w2) : EvW w g x w2 e :=
  ⟨h.gx, h.wx, Nat.lt_of_lt_of_le h.sz hb.size, blk_keep hb h.res, blk_keep hb h.box, grown_below h.gr hb, h.cur.below hb, h.ok⟩
theorem put (h : EvW w g x w1 e) (e' : Ev) (j : Nat) (v : Value) (hk : evShort e')
    (hs : (#[Value.int .i64 e.id, .int .i64 e.day, .int .i64 e.kind, .string e.item, .int .i64 e.q, .int .i64 e.a, .int .i64 e.r] : Array Value).setIfInBounds j v = #[.int .i64 e'.id, .int .i64 e'.day, .int .i64 e'.kind, .string e'.item, .int .i64 e'.q, .int .i64 e'.a, .int .i64 e'.r]) :
    EvW w g x (w1.setCell ⟨x, j, none⟩ v) e' :=
  ⟨h.gx, h.wx, by simpa [World.setCell] using h.sz, (Below.heap_setCell w1 ⟨x, j, none⟩ v w.heap.size (by have := h.wx; simp only; omega)).trans h.res,
    by have k := heap_setCell_same w1 x j _ _ v h.box; rw [hs] at k; exact k,
    grown_setNew' h.gr (by have := h.wx; simp only; omega) v, cur_setNew' h.cur (by have := h.gx; have := h.wx; simp only; omega) v, hk⟩
theorem day (h : EvW w g x w1 e) (v : Int) (hv : i64 v) : EvW w g x (w1.setCell ⟨x, 1, none⟩ (.int .i64 v)) { e with day := v } := h.put _ 1 _ ⟨⟨h.ok.1.1, hv, h.ok.1.2.2⟩, h.ok.2⟩ rfl
theorem kind (h : EvW w g x w1 e) (v : Int) (hv : i64 v) : EvW w g x (w1.setCell ⟨x, 2, none⟩ (.int .i64 v)) { e with kind := v } := h.put _ 2 _ ⟨⟨h.ok.1.1, h.ok.1.2.1, hv, h.ok.1.2.2.2⟩, h.ok.2⟩ rfl
theorem q (h : EvW w g x w1 e) (v : Int) (hv : i64 v) : EvW w g x (w1.setCell ⟨x, 4, none⟩ (.int .i64 v)) { e with q := v } := h.put _ 4 _ ⟨⟨h.ok.1.1, h.ok.1.2.1, h.ok.1.2.2.1, h.ok.1.2.2.2.1, hv, h.ok.1.2.2.2.2.2⟩, h.ok.2⟩ rfl
theorem a (h : EvW w g x w1 e) (v : Int) (hv : i64 v) : EvW w g x (w1.setCell ⟨x, 5, none⟩ (.int .i64 v)) { e with a := v } := h.put _ 5 _ ⟨⟨h.ok.1.1, h.ok.1.2.1, h.ok.1.2.2.1, h.ok.1.2.2.2.1, h.ok.1.2.2.2.2.1, hv, h.ok.1.2.2.2.2.2.2⟩, h.ok.2⟩ rfl
theorem r (h : EvW w g x w1 e) (v : Int) (hv : i64 v) : EvW w g x (w1.setCell ⟨x, 6, none⟩ (.int .i64 v)) { e with r := v } := h.put _ 6 _ ⟨⟨h.ok.1.1, h.ok.1.2.1, h.ok.1.2.2.1, h.ok.1.2.2.2.1, h.ok.1.2.2.2.2.1, h.ok.1.2.2.2.2.2.1, hv⟩, h.ok.2⟩ rfl
theorem at_ (h : EvW w g x w1 e) (j : Nat) (v : Value) (hj : (#[Value.int .i64 e.id, .int .i64 e.day, .int .i64 e.kind, .string e.item, .int .i64 e.q, .int .i64 e.a, .int .i64 e.r] : Array Value)[j]? = some v) : w1.cell? ⟨x, j, none⟩ = some v := blk_at h.box hj
theorem free (h : EvW w g x w1 e) (j : Nat) : w1.frozen? ⟨x, j, none⟩ = false := blk_free h.box j
theorem fin (h : EvW w g x w1 e) (v0 v1 v2 v3 v4 v5 v6 : Value) :
    w.grownBy (((((((w1.setCell ⟨w.heap.size, 0, none⟩ v0).setCell ⟨w.heap.size, 1, none⟩ v1).setCell ⟨w.heap.size, 2, none⟩ v2).setCell ⟨w.heap.size, 3, none⟩ v3).setCell ⟨w.heap.size, 4, none⟩ v4).setCell ⟨w.heap.size, 5, none⟩ v5).setCell ⟨w.heap.size, 6, none⟩ v6) (some g) ∧
    Cur (((((((w1.setCell ⟨w.heap.size, 0, none⟩ v0).setCell ⟨w.heap.size, 1, none⟩ v1).setCell ⟨w.heap.size, 2, none⟩ v2).setCell ⟨w.heap.size, 3, none⟩ v3).setCell ⟨w.heap.size, 4, none⟩ v4).setCell ⟨w.heap.size, 5, none⟩ v5).setCell ⟨w.heap.size, 6, none⟩ v6) g :=
  ⟨grown_setNew' (grown_setNew' (grown_setNew' (grown_setNew' (grown_setNew' (grown_setNew' (grown_setNew' h.gr (Nat.le_refl _) _) (Nat.le_refl _) _) (Nat.le_refl _) _) (Nat.le_refl _) _) (Nat.le_refl _) _) (Nat.le_refl _) _) (Nat.le_refl _) _,
    cur_setNew' (cur_setNew' (cur_setNew' (cur_setNew' (cur_setNew' (cur_setNew' (cur_setNew' h.cur h.gx _) h.gx _) h.gx _) h.gx _) h.gx _) h.gx _) h.gx _⟩
end EvW
def DrawnEv (g : Nat) (w : World) (e' : Ending) (w' : World) : Prop := ∃ e : Ev, e' = .returned (evAgg e) ∧ evShort e ∧ w.grownBy w' (some g) ∧ Cur w' g
set_option maxRecDepth 100000 in
set_option maxHeartbeats 8000000 in
theorem l36Event_any (g : Nat) (id : Int) (w : World) (hc : Cur w g) (hid : i64 id) :
    Calls Try.prog 67 #[.pointer (some ⟨g, 0, none⟩), .int .i64 id] w (DrawnEv g w) := by
  have hlt := hc.lt
  go_enter Try.func67, Try.ntmps67
  go_wp2_with fail
  refine (l1Below_any g _ _ (hc.below (below_box _ _)) (by omega)).mono ?_; rintro e w1 ⟨dy, rfl, hd0, hd1, -, hg1, hc1⟩
  have HR := Lib.hid (blk_grown hg1 (blk_new1 w _) (by omega))
  have z1 := hg1.size
  rw [World.size_alloc] at z1
  have G1 := (World.grownBy_alloc w _ (some g)).trans hg1
  clear hc hg1
  go_wp2_with fail
  refine (l1Below_any g _ _ hc1 (by omega)).mono ?_; rintro e w2 ⟨kd, rfl, hk0, -, hk1, hg2, hc2⟩
  have hk2 := hk1 (by omega)
  have HR := Lib.hid (blk_grown hg2 HR.out (by omega))
  have z2 := hg2.size
  have G2 := G1.trans hg2
  clear hc1 hg2 G1 hk1
  go_wp2_with fail
  refine (l1Pick_any g _ _ _ _ _ (hc2.below (below_box _ _)) (RS_new (by simp)) (by
    intro u hu
    simp only [List.mem_cons, List.not_mem_nil, or_false] at hu
    rcases hu with h | h | h <;> exact ⟨_, h, by decide⟩) (by omega) (by omega) (fun a e => by injection e with e; subst e; show w2.heap.size ≠ g; omega)).mono ?_; rintro e w3 ⟨it, rfl, hit, hg3, hc3⟩
  have HR := Lib.hid (blk_grown hg3 (blk_alloc HR.out _) (by omega))
  have z3 := hg3.size
  rw [World.size_alloc] at z3
  have G3 := (G2.trans (World.grownBy_alloc w2 _ (some g))).trans hg3
  clear hc2 hg3 G2
  go_wp2_with fail
  refine (l1Below_any g _ _ hc3 (by omega)).mono ?_; rintro e w4 ⟨qu, rfl, hq0, hq1, -, hg4, hc4⟩
  have HR := Lib.hid (blk_grown hg4 HR.out (by omega))
  have z4 := hg4.size
  have G4 := G3.trans hg4
  clear hc3 hg4 G3
  go_wp2_with fail
  refine (l1Below_any g _ _ hc4 (by omega)).mono ?_; rintro e w5 ⟨am, rfl, ha0, ha1, -, hg5, hc5⟩
  have HR := Lib.hid (blk_grown hg5 HR.out (by omega))
  have z5 := hg5.size
  have G5 := G4.trans hg5
  clear hc4 hg5 G4
  have K5 := Lib.hid hk2
  have E6 : EvW w g w5.heap.size (w5.alloc (Obj.cells #[.int .i64 id, .int .i64 dy, .int .i64 (1 + kd), .string it, .int .i64 (1 + qu), .int .i64 (1 + am), .int .i64 0] 44)) ⟨id, dy, 1 + kd, it, 1 + qu, 1 + am, 0⟩ :=
    ⟨hlt, by omega, by simp, blk_alloc HR.out _, blk_new1 _ _, G5.trans (World.grownBy_alloc w5 _ (some g)), hc5.below (below_box _ _), ⟨hid, ⟨by simp only; omega, by simp only; omega⟩, ⟨by simp only; omega, by simp only; omega⟩, by simp only; omega, ⟨by simp only; omega, by simp only; omega⟩, ⟨by simp only; omega, by simp only; omega⟩, ⟨by simp only; omega, by simp only; omega⟩⟩, hit⟩
  have hk6 := Lib.hid (show kd = 0 ∨ kd = 1 ∨ kd = 2 ∨ kd = 3 ∨ kd = 4 by omega)
  clear hc5 G5 hk2 z1 z2 z3 z4 z5
  go_upto_region 2 with fail
  obtain ⟨x, hx⟩ : ∃ x, x = w5.heap.size := ⟨_, rfl⟩
  rw [← hx] at E6 ⊢
  obtain ⟨V, hV⟩ : ∃ V, V = w5.alloc (Obj.cells #[.int .i64 id, .int .i64 dy, .int .i64 (1 + kd), .string it, .int .i64 (1 + qu), .int .i64 (1 + am), .int .i64 0] 44) := ⟨_, rfl⟩
  rw [← hV] at E6 ⊢
  clear hV hx
  have x2 := E6.at_ 2 _ rfl
  have f4 := E6.free 4
  have f5 := E6.free 5
  have x4 := E6.at_ 4 _ rfl; have x5 := E6.at_ 5 _ rfl
  have hk7 := hk6.out
  clear hk6
  rcases hk7 with rfl | rfl | rfl | rfl | rfl
  focus
    obtain ⟨e, E⟩ : ∃ e, EvW w g x V e := ⟨_, E6⟩
    go_wp2_with fail
  rotate_left
  focus
    obtain ⟨e, E⟩ : ∃ e, EvW w g x (V.setCell ⟨x, 5, none⟩ (.int .i64 0)) e := ⟨_, E6.a 0 ⟨by omega, by omega⟩⟩
    go_wp2_with fail
  rotate_left
  focus
    go_wp2_with fail
    refine (l1Below_any g _ _ E6.cur (by omega)).mono ?_; rintro e w7 ⟨y, rfl, hy0, hy1, -, hg7, hc7⟩
    obtain ⟨e, E⟩ : ∃ e, EvW w g x (w7.setCell ⟨x, 5, none⟩ (.int .i64 (1 + y))) e := ⟨_, (E6.call hg7 hc7).a (1 + y) ⟨by omega, by omega⟩⟩
    have f5 := (E6.call hg7 hc7).free 5; have x5 := (E6.call hg7 hc7).at_ 5 _ rfl
    go_wp2_with fail
  rotate_left
  focus
    obtain ⟨e, E⟩ : ∃ e, EvW w g x V e := ⟨_, E6⟩
    go_wp2_with fail
  rotate_left
  focus
    have E7 := E6.q 0 ⟨by omega, by omega⟩
    go_wp2_with fail
    refine (l1Below_any g _ _ E7.cur (by omega)).mono ?_; rintro e w7 ⟨y, rfl, hy0, hy1, -, hg7, hc7⟩
    have E8 := (E7.call hg7 hc7).r (1 + y) ⟨by omega, by omega⟩
    have f6 := (E7.call hg7 hc7).free 6; have x6 := (E7.call hg7 hc7).at_ 6 _ rfl
    go_wp2_with fail
    refine (l1Below_any g _ _ E8.cur (by omega)).mono ?_; rintro e w8 ⟨z, rfl, hz0, hz1, -, hg8, hc8⟩
    obtain ⟨e, E⟩ : ∃ e, EvW w g x (w8.setCell ⟨x, 5, none⟩ (.int .i64 (z - 20))) e := ⟨_, (E8.call hg8 hc8).a (z - 20) ⟨by omega, by omega⟩⟩
    have f5 := (E8.call hg8 hc8).free 5; have x5 := (E8.call hg8 hc8).at_ 5 _ rfl
    go_wp2_with fail
  rotate_left
  all_goals
    clear x2 f4 f5 x4 x5
    refine (l1Below_any g _ _ E.cur (by omega)).mono ?_; rintro e' w9 ⟨y, rfl, hy0, hy1, -, hg9, hc9⟩
    have E9 := E.call hg9 hc9
    clear E E6 hg9 hc9
    have hy4 : y = 0 ∨ y = 1 ∨ y = 2 ∨ y = 3 ∨ 4 ≤ y := by omega
    rcases hy4 with rfl | rfl | rfl | rfl | hy4
    focus
      go_wp2_with fail
      first
        | (with_reducible refine (l1Odd_any g _ E9.cur).mono ?_)
        | (with_reducible refine (l4Day_any g _ E9.cur).mono ?_)
        | (refine (l1PickInt_any g _ _ _ [0, 6, -1] _ (E9.cur.below (below_box _ _)) (RS_new (by simp)) (by simp [i64]) (by omega) (by omega) (fun a e => by injection e with e; subst e; show w9.heap.size ≠ g; have := E9.gx; have := E9.wx; have := E9.sz; omega)).mono ?_
           have E9 := E9.below (below_box w9 (Obj.cells #[.int .i64 0, .int .i64 6, .int .i64 (-1)] 3)))
      rintro e' w10 ⟨v, rfl, hv, hg10, hc10⟩
      have E10 := E9.call hg10 hc10
      have xj := E10.at_ 4 _ rfl; have fj := E10.free 4
      obtain ⟨e2, E11⟩ : ∃ e2, EvW w g x (w10.setCell ⟨x, 4, none⟩ (.int .i64 v)) e2 := ⟨_, E10.q v hv⟩
      clear E10 E9 hg10 hc10
      have x0 := E11.at_ 0 _ rfl; have x1 := E11.at_ 1 _ rfl; have x2 := E11.at_ 2 _ rfl; have x3 := E11.at_ 3 _ rfl; have x4 := E11.at_ 4 _ rfl; have x5 := E11.at_ 5 _ rfl; have x6 := E11.at_ 6 _ rfl
      have r0 := blk_at E11.res (j := 0) rfl; have r1 := blk_at E11.res (j := 1) rfl; have r2 := blk_at E11.res (j := 2) rfl; have r3 := blk_at E11.res (j := 3) rfl; have r4 := blk_at E11.res (j := 4) rfl; have r5 := blk_at E11.res (j := 5) rfl; have r6 := blk_at E11.res (j := 6) rfl; have rf := blk_free E11.res
      go_wp2_with fail
      refine bodyPost_ret (v := evAgg e2) (by simp [results, Try.results67, go_sem, r0, r1, r2, r3, r4, r5, r6]) rfl ⟨e2, rfl, E11.ok, (E11.fin _ _ _ _ _ _ _).1, (E11.fin _ _ _ _ _ _ _).2⟩
    focus
      go_wp2_with fail
      first
        | (with_reducible refine (l1Odd_any g _ E9.cur).mono ?_)
        | (with_reducible refine (l4Day_any g _ E9.cur).mono ?_)
        | (refine (l1PickInt_any g _ _ _ [0, 6, -1] _ (E9.cur.below (below_box _ _)) (RS_new (by simp)) (by simp [i64]) (by omega) (by omega) (fun a e => by injection e with e; subst e; show w9.heap.size ≠ g; have := E9.gx; have := E9.wx; have := E9.sz; omega)).mono ?_
           have E9 := E9.below (below_box w9 (Obj.cells #[.int .i64 0, .int .i64 6, .int .i64 (-1)] 3)))
      rintro e' w10 ⟨v, rfl, hv, hg10, hc10⟩
      have E10 := E9.call hg10 hc10
      have xj := E10.at_ 5 _ rfl; have fj := E10.free 5
      obtain ⟨e2, E11⟩ : ∃ e2, EvW w g x (w10.setCell ⟨x, 5, none⟩ (.int .i64 v)) e2 := ⟨_, E10.a v hv⟩
      clear E10 E9 hg10 hc10
      have x0 := E11.at_ 0 _ rfl; have x1 := E11.at_ 1 _ rfl; have x2 := E11.at_ 2 _ rfl; have x3 := E11.at_ 3 _ rfl; have x4 := E11.at_ 4 _ rfl; have x5 := E11.at_ 5 _ rfl; have x6 := E11.at_ 6 _ rfl
      have r0 := blk_at E11.res (j := 0) rfl; have r1 := blk_at E11.res (j := 1) rfl; have r2 := blk_at E11.res (j := 2) rfl; have r3 := blk_at E11.res (j := 3) rfl; have r4 := blk_at E11.res (j := 4) rfl; have r5 := blk_at E11.res (j := 5) rfl; have r6 := blk_at E11.res (j := 6) rfl; have rf := blk_free E11.res
      go_wp2_with fail
      refine bodyPost_ret (v := evAgg e2) (by simp [results, Try.results67, go_sem, r0, r1, r2, r3, r4, r5, r6]) rfl ⟨e2, rfl, E11.ok, (E11.fin _ _ _ _ _ _ _).1, (E11.fin _ _ _ _ _ _ _).2⟩
    focus
      go_wp2_with fail
      first
        | (with_reducible refine (l1Odd_any g _ E9.cur).mono ?_)
        | (with_reducible refine (l4Day_any g _ E9.cur).mono ?_)
        | (refine (l1PickInt_any g _ _ _ [0, 6, -1] _ (E9.cur.below (below_box _ _)) (RS_new (by simp)) (by simp [i64]) (by omega) (by omega) (fun a e => by injection e with e; subst e; show w9.heap.size ≠ g; have := E9.gx; have := E9.wx; have := E9.sz; omega)).mono ?_
           have E9 := E9.below (below_box w9 (Obj.cells #[.int .i64 0, .int .i64 6, .int .i64 (-1)] 3)))
      rintro e' w10 ⟨v, rfl, hv, hg10, hc10⟩
      have E10 := E9.call hg10 hc10
      have xj := E10.at_ 2 _ rfl; have fj := E10.free 2
      obtain ⟨e2, E11⟩ : ∃ e2, EvW w g x (w10.setCell ⟨x, 2, none⟩ (.int .i64 v)) e2 := ⟨_, E10.kind v hv⟩
      clear E10 E9 hg10 hc10
      have x0 := E11.at_ 0 _ rfl; have x1 := E11.at_ 1 _ rfl; have x2 := E11.at_ 2 _ rfl; have x3 := E11.at_ 3 _ rfl; have x4 := E11.at_ 4 _ rfl; have x5 := E11.at_ 5 _ rfl; have x6 := E11.at_ 6 _ rfl
      have r0 := blk_at E11.res (j := 0) rfl; have r1 := blk_at E11.res (j := 1) rfl; have r2 := blk_at E11.res (j := 2) rfl; have r3 := blk_at E11.res (j := 3) rfl; have r4 := blk_at E11.res (j := 4) rfl; have r5 := blk_at E11.res (j := 5) rfl; have r6 := blk_at E11.res (j := 6) rfl; have rf := blk_free E11.res
      go_wp2_with fail
      refine bodyPost_ret (v := evAgg e2) (by simp [results, Try.results67, go_sem, r0, r1, r2, r3, r4, r5, r6]) rfl ⟨e2, rfl, E11.ok, (E11.fin _ _ _ _ _ _ _).1, (E11.fin _ _ _ _ _ _ _).2⟩
    focus
      go_wp2_with fail
      first
        | (with_reducible refine (l1Odd_any g _ E9.cur).mono ?_)
        | (with_reducible refine (l4Day_any g _ E9.cur).mono ?_)
        | (refine (l1PickInt_any g _ _ _ [0, 6, -1] _ (E9.cur.below (below_box _ _)) (RS_new (by simp)) (by simp [i64]) (by omega) (by omega) (fun a e => by injection e with e; subst e; show w9.heap.size ≠ g; have := E9.gx; have := E9.wx; have := E9.sz; omega)).mono ?_
           have E9 := E9.below (below_box w9 (Obj.cells #[.int .i64 0, .int .i64 6, .int .i64 (-1)] 3)))
      rintro e' w10 ⟨v, rfl, hv, hg10, hc10⟩
      have E10 := E9.call hg10 hc10
      have xj := E10.at_ 1 _ rfl; have fj := E10.free 1
      obtain ⟨e2, E11⟩ : ∃ e2, EvW w g x (w10.setCell ⟨x, 1, none⟩ (.int .i64 v)) e2 := ⟨_, E10.day v hv⟩
      clear E10 E9 hg10 hc10
      have x0 := E11.at_ 0 _ rfl; have x1 := E11.at_ 1 _ rfl; have x2 := E11.at_ 2 _ rfl; have x3 := E11.at_ 3 _ rfl; have x4 := E11.at_ 4 _ rfl; have x5 := E11.at_ 5 _ rfl; have x6 := E11.at_ 6 _ rfl
      have r0 := blk_at E11.res (j := 0) rfl; have r1 := blk_at E11.res (j := 1) rfl; have r2 := blk_at E11.res (j := 2) rfl; have r3 := blk_at E11.res (j := 3) rfl; have r4 := blk_at E11.res (j := 4) rfl; have r5 := blk_at E11.res (j := 5) rfl; have r6 := blk_at E11.res (j := 6) rfl; have rf := blk_free E11.res
      go_wp2_with fail
      refine bodyPost_ret (v := evAgg e2) (by simp [results, Try.results67, go_sem, r0, r1, r2, r3, r4, r5, r6]) rfl ⟨e2, rfl, E11.ok, (E11.fin _ _ _ _ _ _ _).1, (E11.fin _ _ _ _ _ _ _).2⟩
    focus
      have q0 : (y == 0) = false := by simp; omega
      have q1 : (y == 1) = false := by simp; omega
      have q2 : (y == 2) = false := by simp; omega
      have q3 : (y == 3) = false := by simp; omega
      obtain ⟨e2, E11⟩ : ∃ e2, EvW w g x w9 e2 := ⟨_, E9⟩
      have x0 := E11.at_ 0 _ rfl; have x1 := E11.at_ 1 _ rfl; have x2 := E11.at_ 2 _ rfl; have x3 := E11.at_ 3 _ rfl; have x4 := E11.at_ 4 _ rfl; have x5 := E11.at_ 5 _ rfl; have x6 := E11.at_ 6 _ rfl
      have r0 := blk_at E11.res (j := 0) rfl; have r1 := blk_at E11.res (j := 1) rfl; have r2 := blk_at E11.res (j := 2) rfl; have r3 := blk_at E11.res (j := 3) rfl; have r4 := blk_at E11.res (j := 4) rfl; have r5 := blk_at E11.res (j := 5) rfl; have r6 := blk_at E11.res (j := 6) rfl; have rf := blk_free E11.res
      clear E9
      go_wp2_with fail
      refine bodyPost_ret (v := evAgg e2) (by simp [results, Try.results67, go_sem, r0, r1, r2, r3, r4, r5, r6]) rfl ⟨e2, rfl, E11.ok, (E11.fin _ _ _ _ _ _ _).1, (E11.fin _ _ _ _ _ _ _).2⟩
end Go.Proofs.Ytlgodbjbllpipaa
namespace Go.Proofs.Ytlgodbjbllpipaa
open Go.ChangeShapes Go.WideShapes Go.ChangeAt Go.RowKit

theorem evCell_len : ∀ y, (evCell y).length = 7 := fun _ => rfl
theorem evCell_one : ∀ x, ∀ u ∈ evCell x, u.oneCell' = true := by
  intro x u hu
  simp only [evCell, List.mem_cons, List.not_mem_nil, or_false] at hu
  rcases hu with rfl | rfl | rfl | rfl | rfl | rfl | rfl <;> rfl
theorem evInfo : (Try.prog.info? 44).map (fun i => (i.zero, i.size, i.bytes)) = some (some (.agg #[.int .i64 0, .int .i64 0, .int .i64 0, .string ⟨#[]⟩, .int .i64 0, .int .i64 0, .int .i64 0]), 7, 64) := by kernel_rfl
theorem blk_set7 {w : World} {r : Nat} {a0 a1 a2 a3 a4 a5 a6 : Value} {t : TypeId} (hr : w.heap[r]? = some (.cells #[a0, a1, a2, a3, a4, a5, a6] t (0, 0))) (u0 u1 u2 u3 u4 u5 u6 : Value) :
    (((((((w.setCell ⟨r, 0, none⟩ u0).setCell ⟨r, 1, none⟩ u1).setCell ⟨r, 2, none⟩ u2).setCell ⟨r, 3, none⟩ u3).setCell ⟨r, 4, none⟩ u4).setCell ⟨r, 5, none⟩ u5).setCell ⟨r, 6, none⟩ u6).heap[r]? = some (.cells #[u0, u1, u2, u3, u4, u5, u6] t (0, 0)) :=
by
  have h0 : (w.setCell ⟨r, 0, none⟩ u0).heap[r]? = some (.cells #[u0, a1, a2, a3, a4, a5, a6] t (0, 0)) := by simpa using heap_setCell_same w r 0 _ _ u0 hr
  generalize w.setCell ⟨r, 0, none⟩ u0 = w0 at h0 ⊢
  have h1 : (w0.setCell ⟨r, 1, none⟩ u1).heap[r]? = some (.cells #[u0, u1, a2, a3, a4, a5, a6] t (0, 0)) := by simpa using heap_setCell_same w0 r 1 _ _ u1 h0
  generalize w0.setCell ⟨r, 1, none⟩ u1 = w1 at h1 ⊢
  have h2 : (w1.setCell ⟨r, 2, none⟩ u2).heap[r]? = some (.cells #[u0, u1, u2, a3, a4, a5, a6] t (0, 0)) := by simpa using heap_setCell_same w1 r 2 _ _ u2 h1
  generalize w1.setCell ⟨r, 2, none⟩ u2 = w2 at h2 ⊢
  have h3 : (w2.setCell ⟨r, 3, none⟩ u3).heap[r]? = some (.cells #[u0, u1, u2, u3, a4, a5, a6] t (0, 0)) := by simpa using heap_setCell_same w2 r 3 _ _ u3 h2
  generalize w2.setCell ⟨r, 3, none⟩ u3 = w3 at h3 ⊢
  have h4 : (w3.setCell ⟨r, 4, none⟩ u4).heap[r]? = some (.cells #[u0, u1, u2, u3, u4, a5, a6] t (0, 0)) := by simpa using heap_setCell_same w3 r 4 _ _ u4 h3
  generalize w3.setCell ⟨r, 4, none⟩ u4 = w4 at h4 ⊢
  have h5 : (w4.setCell ⟨r, 5, none⟩ u5).heap[r]? = some (.cells #[u0, u1, u2, u3, u4, u5, a6] t (0, 0)) := by simpa using heap_setCell_same w4 r 5 _ _ u5 h4
  generalize w4.setCell ⟨r, 5, none⟩ u5 = w5 at h5 ⊢
  simpa using heap_setCell_same w5 r 6 _ _ u6 h5
theorem own_set1 {w : World} {base size n r j : Nat} {e : TypeId} {v : Value} {xs : List Value} (h : w.ownsRow base e size v n xs) (hv : ∀ k, v.ownBlock = some k → k < r) (u : Value) : (w.setCell ⟨r, j, none⟩ u).ownsRow base e size v n xs :=
  own_grown h (grown_set w ⟨r, j, none⟩ u) (by
    cases hb : v.ownBlock with
    | none => exact .inl rfl
    | some k => refine .inr fun he => ?_
                have := hv k hb
                injection he with he
                simp only at he
                omega)
theorem own_set7 {w : World} {base size n r : Nat} {e : TypeId} {v : Value} {xs : List Value} (h : w.ownsRow base e size v n xs) (hv : ∀ k, v.ownBlock = some k → k < r) (u0 u1 u2 u3 u4 u5 u6 : Value) :
    (((((((w.setCell ⟨r, 0, none⟩ u0).setCell ⟨r, 1, none⟩ u1).setCell ⟨r, 2, none⟩ u2).setCell ⟨r, 3, none⟩ u3).setCell ⟨r, 4, none⟩ u4).setCell ⟨r, 5, none⟩ u5).setCell ⟨r, 6, none⟩ u6).ownsRow base e size v n xs :=
  own_set1 (own_set1 (own_set1 (own_set1 (own_set1 (own_set1 (own_set1 h hv _) hv _) hv _) hv _) hv _) hv _) hv _
theorem grown_set7 {w w' : World} {row : Option Nat} {r : Nat} (h : w.grownBy w' row) (hr : w.heap.size ≤ r) (u0 u1 u2 u3 u4 u5 u6 : Value) :
    w.grownBy (((((((w'.setCell ⟨r, 0, none⟩ u0).setCell ⟨r, 1, none⟩ u1).setCell ⟨r, 2, none⟩ u2).setCell ⟨r, 3, none⟩ u3).setCell ⟨r, 4, none⟩ u4).setCell ⟨r, 5, none⟩ u5).setCell ⟨r, 6, none⟩ u6) row :=
  grown_setNew' (grown_setNew' (grown_setNew' (grown_setNew' (grown_setNew' (grown_setNew' (grown_setNew' h hr _) hr _) hr _) hr _) hr _) hr _) hr _
theorem cur_set7 {w : World} {g r : Nat} (h : Cur w g) (hr : g < r) (u0 u1 u2 u3 u4 u5 u6 : Value) :
    Cur (((((((w.setCell ⟨r, 0, none⟩ u0).setCell ⟨r, 1, none⟩ u1).setCell ⟨r, 2, none⟩ u2).setCell ⟨r, 3, none⟩ u3).setCell ⟨r, 4, none⟩ u4).setCell ⟨r, 5, none⟩ u5).setCell ⟨r, 6, none⟩ u6) g :=
  cur_setNew' (cur_setNew' (cur_setNew' (cur_setNew' (cur_setNew' (cur_setNew' (cur_setNew' h hr _) hr _) hr _) hr _) hr _) hr _) hr _
def DrawnEvs (g : Nat) (w : World) (e : Ending) (w' : World) : Prop :=
  ∃ (A : Option Addr) (n c : Nat) (l : List Ev), e = .returned (.slice A n c) ∧ w'.ownsRow w.heap.size 44 7 (.slice A n c) n (l.flatMap evCell) ∧ n ≤ 8 ∧ (∀ x ∈ l, evShort x) ∧ w.grownBy w' (some g) ∧ Cur w' g
set_option maxRecDepth 100000 in
set_option maxHeartbeats 8000000 in
theorem l36Events_any (g : Nat) (w : World) (hc : Cur w g) :
    Calls Try.prog 96 #[.pointer (some ⟨g, 0, none⟩)] w (DrawnEvs g w) := by
  have hlt := hc.lt
  obtain ⟨i0, hi, hz0, hz1, hz2⟩ := info_parts evInfo
  go_enter Try.func96, Try.ntmps96
  go_wp2_with fail
  refine (l1Below_any g _ _ (hc.below (below_box _ _)) (by omega)).mono ?_; rintro e w1 ⟨m0, rfl, hm0, -, hm1, hg1, hc1⟩
  have hm2 := hm1 (by omega)
  have ho1 := row_grown (own_empty w w.heap.size 44 7 (Nat.le_refl _)) hg1 (cur_apart (own_empty w w.heap.size 44 7 (Nat.le_refl _)) hlt)
  have G1 := (World.grownBy_alloc w (Obj.cells #[] 44) (some g)).trans hg1
  clear hg1 hc hm1
  go_wp2_with fail
  go_loopw [3, 4] (fun v i wr => ∃ (m : Int) (A : Option Addr) (n c : Nat) (l : List Ev), 0 ≤ m ∧ n + m ≤ 8 ∧ i = .int .i64 m ∧ v = .slice A n c ∧ wr.ownsRow w.heap.size 44 7 (.slice A n c) n (l.flatMap evCell) ∧ Hid (∀ x ∈ l, evShort x) ∧ w.grownBy wr (some g) ∧ Cur wr g) (fun _ i _ => (intOf i).toNat)
  case atStart => exact ⟨m0, _, 0, _, [], hm0, by omega, rfl, rfl, ho1, by simp [Hid], G1, hc1⟩
  case round =>
    obtain ⟨m, A, n, c, l, hm, hnm, rfl, rfl, ho, hok, hg, hc⟩ := hrel
    clear ho1 G1 hc1
    have hz := hg.size
    by_cases h0 : 0 < m
    · go_wp2_with fail
      refine (l36Event_any g (1 + n) _ hc ⟨by omega, by omega⟩).mono ?_; rintro e w2 ⟨e1, rfl, he1, hg2, hc2⟩
      have ho2 := row_grown ho hg2 (cur_apart ho hlt)
      have G2 := hg.trans hg2
      clear ho hg hc hg2
      have ob2 := ho2.alloc (Obj.cells #[.int .i64 e1.id, .int .i64 e1.day, .int .i64 e1.kind, .string e1.item, .int .i64 e1.q, .int .i64 e1.a, .int .i64 e1.r] 44)
      have GB := G2.trans (World.grownBy_alloc w2 (Obj.cells #[.int .i64 e1.id, .int .i64 e1.day, .int .i64 e1.kind, .string e1.item, .int .i64 e1.q, .int .i64 e1.a, .int .i64 e1.r] 44) (some g))
      have CB := hc2.below (below_box w2 (Obj.cells #[.int .i64 e1.id, .int .i64 e1.day, .int .i64 e1.kind, .string e1.item, .int .i64 e1.q, .int .i64 e1.a, .int .i64 e1.r] 44))
      have HB := Lib.hid (blk_new1 w2 (Obj.cells #[.int .i64 e1.id, .int .i64 e1.day, .int .i64 e1.kind, .string e1.item, .int .i64 e1.q, .int .i64 e1.a, .int .i64 e1.r] 44))
      have ap := Lib.hid (show ∀ k, (Value.slice A n c).ownBlock = some k → k < w2.heap.size from fun k hk => (ho2.lt k hk).2)
      have zb := G2.size
      have hc8 := Lib.hid (show g < w2.heap.size from hc2.lt)
      clear ho2 G2 hc2
      go_upto_region 6 with fail
      obtain ⟨bx, hbx⟩ : ∃ x, x = w2.heap.size := ⟨_, rfl⟩
      rw [← hbx] at HB zb ap hc8 ⊢
      obtain ⟨V, hV⟩ : ∃ V, V = w2.alloc (Obj.cells #[.int .i64 e1.id, .int .i64 e1.day, .int .i64 e1.kind, .string e1.item, .int .i64 e1.q, .int .i64 e1.a, .int .i64 e1.r] 44) := ⟨_, rfl⟩
      have zV : bx < V.heap.size := by rw [hV, World.size_alloc]; omega
      rw [← hV] at HB GB CB ob2 ⊢
      clear hV hbx
      have hn8 : n ≤ 7 := by omega
      have gb : g < bx := by have := hc8.out; omega
      by_cases hn2 : n < 2
      focus
        go_wp2_with fail
        refine (l1Once_any g _ _ CB (by omega)).mono ?_; rintro e w3 ⟨b3, rfl, hg3, hc3⟩
        have o3 := row_grown ob2 hg3 (cur_apart ob2 hlt)
        have HB := Lib.hid (blk_grown hg3 HB.out (by omega))
        have G3 := GB.trans hg3
        have z3 := Nat.lt_of_lt_of_le zV hg3.size
        clear ob2 GB CB hg3 zV
        cases b3
      focus
        go_wp2_with fail
        refine (l1Below_any g _ _ hc3 (by omega)).mono ?_; rintro e w4 ⟨dy, rfl, hd0, hd1, -, hg4, hc4⟩
        have o4 := row_grown o3 hg4 (cur_apart o3 hlt)
        have HB := Lib.hid (blk_grown hg4 HB.out (by omega))
        have G4 := G3.trans hg4
        have z4 := Nat.lt_of_lt_of_le z3 hg4.size
        clear o3 G3 hc3 hg4 z3
        go_wp2_with fail
        refine (l1Pick_any g _ _ _ _ _ (hc4.below (below_box _ _)) (RS_new (by simp)) (by
          intro u hu
          simp only [List.mem_cons, List.not_mem_nil, or_false] at hu
          rcases hu with h | h <;> exact ⟨_, h, by decide⟩) (by omega) (by omega) (fun a e => by injection e with e; subst e; show w4.heap.size ≠ g; omega)).mono ?_; rintro e w5 ⟨it, rfl, hit, hg5, hc5⟩
        have o5 := row_grown (o4.alloc _) hg5 (cur_apart o4 hlt)
        have HB := Lib.hid (blk_grown hg5 (blk_alloc HB.out _) (by omega))
        have G5 := (G4.trans (World.grownBy_alloc w4 _ (some g))).trans hg5
        have z5 := hg5.size
        rw [World.size_alloc] at z5
        clear o4 G4 hc4 hg5
        go_wp2_with fail
        refine (l1Below_any g _ _ hc5 (by omega)).mono ?_; rintro e w6 ⟨qu, rfl, hq0, hq1, -, hg6, hc6⟩
        have o6 := row_grown o5 hg6 (cur_apart o5 hlt)
        have HB := Lib.hid (blk_grown hg6 HB.out (by omega))
        have G6 := G5.trans hg6
        have z6 := hg6.size
        clear o5 G5 hc5 hg6
        go_wp2_with fail
        refine (l1Below_any g _ _ hc6 (by omega)).mono ?_; rintro e w7 ⟨am, rfl, ha0, ha1, -, hg7, hc7⟩
        have o7 := row_grown o6 hg7 (cur_apart o6 hlt)
        have HB := Lib.hid (blk_grown hg7 HB.out (by omega))
        have G7 := G6.trans hg7
        have z7 := hg7.size
        clear o6 G6 hc6 hg7
        have y0 := blk_at HB.out (j := 0) rfl; have y1 := blk_at HB.out (j := 1) rfl; have y2 := blk_at HB.out (j := 2) rfl; have y3 := blk_at HB.out (j := 3) rfl; have y4 := blk_at HB.out (j := 4) rfl; have y5 := blk_at HB.out (j := 5) rfl; have y6 := blk_at HB.out (j := 6) rfl; have yf := blk_free HB.out
        go_upto_region 8 with fail
        clear y0 y1 y2 y3 y4 y5 y6 yf
        obtain ⟨V8, hV8⟩ : ∃ V8, V8 = ((((((w7.setCell ⟨bx, 0, none⟩ (.int .i64 (1 + n))).setCell ⟨bx, 1, none⟩ (.int .i64 dy)).setCell ⟨bx, 2, none⟩ (.int .i64 1)).setCell ⟨bx, 3, none⟩ (.string it)).setCell ⟨bx, 4, none⟩ (.int .i64 (5 + qu))).setCell ⟨bx, 5, none⟩ (.int .i64 (1 + am))).setCell ⟨bx, 6, none⟩ (.int .i64 0) := ⟨_, rfl⟩
        have B8 := Lib.hid (show V8.heap[bx]? = some (Obj.cells #[.int .i64 (1 + n), .int .i64 dy, .int .i64 1, .string it, .int .i64 (5 + qu), .int .i64 (1 + am), .int .i64 0] 44 (0, 0)) by rw [hV8]; exact blk_set7 HB.out _ _ _ _ _ _ _)
        have O8 := Lib.hid (show V8.ownsRow w.heap.size 44 7 (.slice A n c) n (l.flatMap evCell) by rw [hV8]; exact own_set7 o7 (fun k hk => by have := ap.out k hk; omega) _ _ _ _ _ _ _)
        have G8 := Lib.hid (show w.grownBy V8 (some g) by rw [hV8]; exact grown_set7 G7 (show w.heap.size ≤ bx by omega) _ _ _ _ _ _ _)
        have C8 := Lib.hid (show Cur V8 g by rw [hV8]; exact cur_set7 hc7 gb _ _ _ _ _ _ _)
        have Z8 := Lib.hid (show bx < V8.heap.size by rw [hV8]; simp [World.setCell]; omega)
        have K8 := Lib.hid (show evShort ⟨1 + n, dy, 1, it, 5 + qu, 1 + am, 0⟩ from ⟨⟨⟨by simp only; omega, by simp only; omega⟩, ⟨by simp only; omega, by simp only; omega⟩, ⟨by simp only; omega, by simp only; omega⟩, by simp only; omega, ⟨by simp only; omega, by simp only; omega⟩, ⟨by simp only; omega, by simp only; omega⟩, ⟨by simp only; omega, by simp only; omega⟩⟩, hit⟩)
        obtain ⟨e8, he8⟩ : ∃ e8 : Ev, e8 = ⟨1 + n, dy, 1, it, 5 + qu, 1 + am, 0⟩ := ⟨_, rfl⟩
        have B8 := Lib.hid (show V8.heap[bx]? = some (Obj.cells #[.int .i64 e8.id, .int .i64 e8.day, .int .i64 e8.kind, .string e8.item, .int .i64 e8.q, .int .i64 e8.a, .int .i64 e8.r] 44 (0, 0)) by rw [he8]; exact B8.out)
        rw [← he8] at K8
        rw [← hV8]
        clear he8 hV8 o7 G7 hc7 HB hit hd0 hd1 hq0 hq1 ha0 ha1 z4 z5 z6 z7
      rotate_left
      focus
        obtain ⟨V8, hV8⟩ : ∃ V8, V8 = w3 := ⟨_, rfl⟩
        rw [← hV8] at HB o3 G3 hc3 z3 ⊢
        obtain ⟨e8, he8⟩ : ∃ e8 : Ev, e8 = e1 := ⟨_, rfl⟩
        rw [← he8] at he1 HB
        have B8 := HB; have O8 := Lib.hid o3; have G8 := Lib.hid G3; have C8 := Lib.hid hc3; have K8 := Lib.hid he1; have Z8 := Lib.hid z3
        clear HB o3 G3 hc3 z3 he8 hV8
        go_upto_region 8 with fail
      rotate_left
      focus
        obtain ⟨V8, hV8⟩ : ∃ V8, V8 = V := ⟨_, rfl⟩
        rw [← hV8] at HB ob2 GB CB zV ⊢
        obtain ⟨e8, he8⟩ : ∃ e8 : Ev, e8 = e1 := ⟨_, rfl⟩
        rw [← he8] at he1 HB
        have B8 := HB; have O8 := Lib.hid ob2; have G8 := Lib.hid GB; have C8 := Lib.hid CB; have K8 := Lib.hid he1; have Z8 := Lib.hid zV
        clear HB ob2 GB CB zV he8 hV8
        go_upto_region 8 with fail
      rotate_left
      all_goals
        have x0 := blk_at B8.out (j := 0) rfl; have x1 := blk_at B8.out (j := 1) rfl; have x2 := blk_at B8.out (j := 2) rfl; have x3 := blk_at B8.out (j := 3) rfl; have x4 := blk_at B8.out (j := 4) rfl; have x5 := blk_at B8.out (j := 5) rfl; have x6 := blk_at B8.out (j := 6) rfl
        have OB := O8.out.alloc (Obj.cells #[.int .i64 e8.id, .int .i64 e8.day, .int .i64 e8.kind, .string e8.item, .int .i64 e8.q, .int .i64 e8.a, .int .i64 e8.r] 44)
        go_wp2_with (at_builtin; refine wpList_app _ rfl _ _ _ rfl w.heap.size 44 i0 _ 7 64 Try.underlying119 hi hz0 hz1 hz2 rfl (by omega) _ n (l.flatMap evCell) rfl OB _ 1 1 (evCell e8) rfl (RS_new (by simp)) (evCell_one _) (by unfold maxLen; omega) (by omega) (by have := Z8.out; simp; omega) ?_; intro A4 c4 w4 o4 g4 at4 b4)
        have o5 : w4.ownsRow w.heap.size 44 7 (.slice A4 (n + 1) c4) (n + 1) ((l ++ [e8]).flatMap evCell) := by rw [flat_append, flat_one]; exact o4
        have G4 := grown_own (G8.out.trans (World.grownBy_alloc V8 (Obj.cells #[.int .i64 e8.id, .int .i64 e8.day, .int .i64 e8.kind, .string e8.item, .int .i64 e8.q, .int .i64 e8.a, .int .i64 e8.r] 44) _)) g4 (fun j hj => (OB.lt j hj).1)
        have C4 := cur_grown (C8.out.below (below_box V8 (Obj.cells #[.int .i64 e8.id, .int .i64 e8.day, .int .i64 e8.kind, .string e8.item, .int .i64 e8.q, .int .i64 e8.a, .int .i64 e8.r] 44))) g4 (fun j hj => by have := (OB.lt j hj).1; omega)
        have OK4 : ∀ x ∈ l ++ [e8], evShort x := snoc_mem hok.out K8.out
        clear o4 g4 at4 b4 OB x0 x1 x2 x3 x4 x5 x6
        go_roundw
        case rel => exact ⟨m - 1, A4, n + 1, c4, _, by omega, by omega, by go_num, rfl, o5, OK4, G4, C4⟩
        case measure => simp [intOf]; omega
    · obtain rfl : m = 0 := by omega
      go_wp2_with fail
      go_ret
      exact ⟨A, n, c, l, rfl, ho, by omega, hok.out, hg, hc⟩
end Go.Proofs.Ytlgodbjbllpipaa
namespace Go.Proofs.Ytlgodbjbllpipaa
open Go.ChangeShapes Go.WideShapes Go.ChangeAt Go.RowKit

/-- T has the amounts that f gives, each account once, in order, where they are not 0. -/
def Canon (T : List En) (f : ByteArray → Int) : Prop := Rising En.acc T ∧ (∀ x ∈ T, x.amt ≠ 0 ∧ x.amt = f x.acc) ∧ ∀ s, f s ≠ 0 → ∃ x ∈ T, x.acc = s
theorem canon_mem {T : List En} {f : ByteArray → Int} (h : Canon T f) (x : En) : x ∈ T ↔ x.amt ≠ 0 ∧ x.amt = f x.acc := by
  refine ⟨fun hx => h.2.1 x hx, fun ⟨h0, h1⟩ => ?_⟩
  obtain ⟨y, hy, he⟩ := h.2.2 x.acc (by rw [← h1]; exact h0)
  have h2 := (h.2.1 y hy).2
  have : x = y := by
    cases x; cases y
    simp only at he h1 h2
    subst he
    rw [h1, h2]
  rw [this]; exact hy
theorem canon_unique {T U : List En} {f : ByteArray → Int} (h : Canon T f) (k : Canon U f) : T = U :=
  rising_ext h.1 k.1 fun x => by rw [canon_mem h, canon_mem k]
theorem canon_ext {T : List En} {f g : ByteArray → Int} (h : Canon T f) (e : ∀ s, f s = g s) : Canon T g := by
  have : f = g := funext e
  rw [← this]; exact h
theorem canon_nil : Canon [] (fun _ => 0) := ⟨List.Pairwise.nil, by simp, by simp⟩

/-- An amount added in such a list. -/
def addE : List En → ByteArray → Int → List En
  | [], acc, amt => if amt = 0 then [] else [⟨acc, amt⟩]
  | x :: r, acc, amt => if txtLess x.acc acc = true then x :: addE r acc amt else if x.acc = acc then (if amt + x.amt = 0 then r else ⟨acc, amt + x.amt⟩ :: r) else (if amt = 0 then x :: r else ⟨acc, amt⟩ :: x :: r)
theorem addE_acc : ∀ {T : List En} {acc : ByteArray} {amt : Int} {x : En}, x ∈ addE T acc amt → x.acc = acc ∨ x ∈ T
  | [], acc, amt, x, h => by
    unfold addE at h
    split at h
    · simp at h
    · simp at h; rw [h]; exact .inl rfl
  | y :: r, acc, amt, x, h => by
    unfold addE at h
    split at h
    · rcases List.mem_cons.1 h with rfl | h
      · exact .inr (by simp)
      · rcases addE_acc h with h | h
        · exact .inl h
        · exact .inr (by simp [h])
    · split at h
      · split at h
        · exact .inr (by simp [h])
        · rcases List.mem_cons.1 h with rfl | h
          · exact .inl rfl
          · exact .inr (by simp [h])
      · split at h
        · exact .inr h
        · rcases List.mem_cons.1 h with rfl | h
          · exact .inl rfl
          · exact .inr h
theorem addE_len : ∀ (T : List En) (acc : ByteArray) (amt : Int), (addE T acc amt).length ≤ T.length + 1
  | [], acc, amt => by unfold addE; split <;> simp
  | y :: r, acc, amt => by
    unfold addE
    have := addE_len r acc amt
    split
    · simp; omega
    · split
      · split
        · simp; omega
        · simp
      · split <;> simp
theorem addE_rising : ∀ {T : List En} (acc : ByteArray) (amt : Int), Rising En.acc T → Rising En.acc (addE T acc amt)
  | [], acc, amt, _ => by unfold addE; split <;> simp [Rising]
  | y :: r, acc, amt, h => by
    obtain ⟨h1, h2⟩ := List.pairwise_cons.1 h
    unfold addE
    split
    · rename_i hl
      refine List.pairwise_cons.2 ⟨fun x hx => ?_, addE_rising acc amt h2⟩
      rcases addE_acc hx with e | hx
      · rw [e]; exact hl
      · exact h1 x hx
    · rename_i hl
      split
      · rename_i he
        split
        · exact h2
        · exact List.pairwise_cons.2 ⟨fun x hx => by rw [← he]; exact h1 x hx, h2⟩
      · rename_i he
        split
        · exact h
        · refine List.pairwise_cons.2 ⟨fun x hx => ?_, h⟩
          have hy : txtLess acc y.acc = true := by
            cases hc : txtLess acc y.acc
            · exact absurd (txt_tri (by simpa using hl) hc) he
            · rfl
          rcases List.mem_cons.1 hx with rfl | hx
          · exact hy
          · exact txt_trans hy (h1 x hx)
theorem addE_mem : ∀ {T : List En} {acc : ByteArray} {amt : Int}, Rising En.acc T → ∀ x : En, x ∈ addE T acc amt ↔ (x ∈ T ∧ x.acc ≠ acc) ∨ (x.acc = acc ∧ x.amt ≠ 0 ∧ ∃ b : Int, ((⟨acc, b⟩ : En) ∈ T ∨ (b = 0 ∧ ∀ y ∈ T, y.acc ≠ acc)) ∧ x.amt = amt + b)
  | [], acc, amt, _, x => by
    unfold addE
    by_cases h0 : amt = 0
    · rw [if_pos h0]
      constructor
      · intro h; simp at h
      · rintro (⟨h, _⟩ | ⟨_, h, b, hb, e⟩)
        · simp at h
        · rcases hb with hb | ⟨hb, _⟩
          · simp at hb
          · omega
    · rw [if_neg h0]
      constructor
      · intro h
        simp at h; subst h
        exact .inr ⟨rfl, h0, 0, .inr ⟨rfl, by simp⟩, by simp⟩
      · rintro (⟨h, _⟩ | ⟨ha, h, b, hb, e⟩)
        · simp at h
        · rcases hb with hb | ⟨hb, _⟩
          · simp at hb
          · cases x; simp only at ha e; subst ha; simp; omega
  | y :: r, acc, amt, hr, x => by
    obtain ⟨h1, h2⟩ := List.pairwise_cons.1 hr
    unfold addE
    by_cases hl : txtLess y.acc acc = true
    · rw [if_pos hl]
      have hne := txt_ne hl
      rw [List.mem_cons, addE_mem h2 x]
      constructor
      · rintro (rfl | ⟨h, h'⟩ | ⟨ha, h0, b, hb, e⟩)
        · exact .inl ⟨by simp, hne⟩
        · exact .inl ⟨by simp [h], h'⟩
        · refine .inr ⟨ha, h0, b, ?_, e⟩
          rcases hb with hb | ⟨hb, hb'⟩
          · exact .inl (by simp [hb])
          · refine .inr ⟨hb, fun z hz => ?_⟩
            rcases List.mem_cons.1 hz with rfl | hz
            · exact hne
            · exact hb' z hz
      · rintro (⟨h, h'⟩ | ⟨ha, h0, b, hb, e⟩)
        · rcases List.mem_cons.1 h with rfl | h
          · exact .inl rfl
          · exact .inr (.inl ⟨h, h'⟩)
        · refine .inr (.inr ⟨ha, h0, b, ?_, e⟩)
          rcases hb with hb | ⟨hb, hb'⟩
          · rcases List.mem_cons.1 hb with hb | hb
            · rw [← hb] at hne; exact absurd rfl hne
            · exact .inl hb
          · exact .inr ⟨hb, fun z hz => hb' z (by simp [hz])⟩
    · rw [if_neg hl]
      have hrest : ∀ z ∈ r, z.acc ≠ acc ∨ False := fun z hz => by
        refine .inl fun e => ?_
        have := h1 z hz
        rw [e] at this
        exact absurd this hl
      have hr' : ∀ z ∈ r, z.acc ≠ acc := fun z hz => (hrest z hz).resolve_right id
      by_cases he : y.acc = acc
      · rw [if_pos he]
        by_cases h0 : amt + y.amt = 0
        · rw [if_pos h0]
          constructor
          · intro h; exact .inl ⟨by simp [h], hr' x h⟩
          · rintro (⟨h, h'⟩ | ⟨ha, h0', b, hb, e⟩)
            · rcases List.mem_cons.1 h with rfl | h
              · exact absurd he h'
              · exact h
            · rcases hb with hb | ⟨_, hb'⟩
              · rcases List.mem_cons.1 hb with hb | hb
                · rw [← hb] at h0; simp only at h0; omega
                · exact absurd rfl (hr' _ hb)
              · exact absurd he (hb' y (by simp))
        · rw [if_neg h0]
          constructor
          · intro h
            rcases List.mem_cons.1 h with rfl | h
            · exact .inr ⟨rfl, h0, y.amt, .inl (by rw [← he]; simp), rfl⟩
            · exact .inl ⟨by simp [h], hr' x h⟩
          · rintro (⟨h, h'⟩ | ⟨ha, h0', b, hb, e⟩)
            · rcases List.mem_cons.1 h with rfl | h
              · exact absurd he h'
              · simp [h]
            · rcases hb with hb | ⟨_, hb'⟩
              · rcases List.mem_cons.1 hb with hb | hb
                · rw [← hb]; cases x; simp only at ha e; subst ha; simp [e]
                · exact absurd rfl (hr' _ hb)
              · exact absurd he (hb' y (by simp))
      · rw [if_neg he]
        have hall : ∀ z ∈ y :: r, z.acc ≠ acc := fun z hz => by
          rcases List.mem_cons.1 hz with rfl | hz
          · exact he
          · exact hr' z hz
        by_cases h0 : amt = 0
        · rw [if_pos h0]
          constructor
          · intro h; exact .inl ⟨h, hall x h⟩
          · rintro (⟨h, _⟩ | ⟨ha, h0', b, hb, e⟩)
            · exact h
            · rcases hb with hb | ⟨hb, _⟩
              · exact absurd rfl (hall _ hb)
              · omega
        · rw [if_neg h0]
          constructor
          · intro h
            rcases List.mem_cons.1 h with rfl | h
            · exact .inr ⟨rfl, h0, 0, .inr ⟨rfl, hall⟩, by simp⟩
            · exact .inl ⟨h, hall x h⟩
          · rintro (⟨h, _⟩ | ⟨ha, h0', b, hb, e⟩)
            · simp [h]
            · rcases hb with hb | ⟨hb, _⟩
              · exact absurd rfl (hall _ hb)
              · cases x; simp only at ha e; subst ha; simp; left; omega
theorem canon_add {T : List En} {f : ByteArray → Int} (h : Canon T f) (acc : ByteArray) (amt : Int) : Canon (addE T acc amt) (fun s => f s + if s = acc then amt else 0) := by
  have hb : ∀ b : Int, ((⟨acc, b⟩ : En) ∈ T ∨ (b = 0 ∧ ∀ y ∈ T, y.acc ≠ acc)) ↔ b = f acc := by
    intro b
    constructor
    · rintro (hb | ⟨rfl, hb⟩)
      · exact (h.2.1 _ hb).2
      · by_cases hf : f acc = 0
        · exact hf.symm
        · obtain ⟨x, hx, he⟩ := h.2.2 acc hf
          exact absurd he (hb x hx)
    · intro e
      by_cases hf : f acc = 0
      · refine .inr ⟨by rw [e, hf], fun y hy he => ?_⟩
        have := h.2.1 y hy
        rw [he, hf] at this
        exact this.1 this.2
      · exact .inl ((canon_mem h _).2 ⟨by simp only; rw [e]; exact hf, e⟩)
  refine ⟨addE_rising acc amt h.1, fun x hx => ?_, fun s hs => ?_⟩
  · dsimp only
    rcases (addE_mem h.1 x).1 hx with ⟨hx, hne⟩ | ⟨ha, h0, b, hb', e⟩
    · have := h.2.1 x hx
      rw [if_neg hne]; exact ⟨this.1, by omega⟩
    · rw [if_pos ha, ha]
      have := (hb b).1 hb'
      exact ⟨h0, by omega⟩
  · dsimp only at hs
    by_cases he : s = acc
    · subst he
      rw [if_pos rfl] at hs
      exact ⟨⟨s, amt + f s⟩, (addE_mem h.1 _).2 (.inr ⟨rfl, by simp only; omega, f s, (hb _).2 rfl, rfl⟩), rfl⟩
    · rw [if_neg he] at hs
      obtain ⟨x, hx, hxs⟩ := h.2.2 s (by omega)
      exact ⟨x, (addE_mem h.1 x).2 (.inl ⟨hx, by rw [hxs]; exact he⟩), hxs⟩

/-- The loop's words: what stands ahead of the account is kept. -/
theorem addE_at : ∀ {T : List En} {acc : ByteArray} {amt : Int} {k : Nat}, (∀ (j : Nat) (x : En), j < k → T[j]? = some x → txtLess x.acc acc = true) → k ≤ T.length → addE T acc amt = T.take k ++ addE (T.drop k) acc amt
  | _, _, _, 0, _, _ => by simp
  | [], _, _, k + 1, _, hk => by simp at hk
  | x :: r, acc, amt, k + 1, h, hk => by
    have h0 := h 0 x (by omega) rfl
    rw [List.take_succ_cons, List.drop_succ_cons, List.cons_append, ← addE_at (fun j y hj hy => h (j + 1) y (by omega) (by simpa using hy)) (by simpa using hk)]
    rw [addE, if_pos h0]
theorem addE_end {T : List En} {acc : ByteArray} {amt : Int} (h : ∀ (j : Nat) (x : En), T[j]? = some x → txtLess x.acc acc = true) : addE T acc amt = T ++ if amt = 0 then [] else [⟨acc, amt⟩] := by
  rw [addE_at (k := T.length) (fun j x _ hx => h j x hx) (Nat.le_refl _)]
  simp [addE]
theorem drop_atE {α : Type} {l : List α} {k : Nat} {x : α} (h : l[k]? = some x) : l.drop k = x :: l.drop (k + 1) := by
  have hk := (List.getElem?_eq_some_iff.1 h)
  rw [List.drop_eq_getElem_cons hk.1, hk.2]
theorem addE_hit {T : List En} {acc : ByteArray} {amt : Int} {k : Nat} {x : En} (h : ∀ (j : Nat) (x : En), j < k → T[j]? = some x → txtLess x.acc acc = true) (hx : T[k]? = some x) (hl : txtLess x.acc acc = false) (he : x.acc = acc) :
    addE T acc amt = T.take k ++ (if amt + x.amt = 0 then [] else [⟨acc, amt + x.amt⟩]) ++ T.drop (k + 1) := by
  have hk := (List.getElem?_eq_some_iff.1 hx).1
  rw [addE_at h (by omega), drop_atE hx, addE, if_neg (by rw [hl]; simp), if_pos he]
  split <;> simp
theorem addE_miss {T : List En} {acc : ByteArray} {amt : Int} {k : Nat} {x : En} (h : ∀ (j : Nat) (x : En), j < k → T[j]? = some x → txtLess x.acc acc = true) (hx : T[k]? = some x) (hl : txtLess x.acc acc = false) (he : ¬ x.acc = acc) :
    addE T acc amt = T.take k ++ (if amt = 0 then [] else [⟨acc, amt⟩]) ++ T.drop k := by
  have hk := (List.getElem?_eq_some_iff.1 hx).1
  rw [addE_at h (by omega), drop_atE hx, addE, if_neg (by rw [hl]; simp), if_neg he]
  split <;> simp

/-- All entries, one behind another. -/
def trialE (l : List En) : List En := l.foldl (fun T x => addE T x.acc x.amt) []
def sumAcc (l : List En) (s : ByteArray) : Int := sumF (entHit s) l l.length
theorem trialE_snoc (l : List En) (x : En) : trialE (l ++ [x]) = addE (trialE l) x.acc x.amt := by simp [trialE]
theorem trialE_take {l : List En} {k : Nat} {x : En} (h : l[k]? = some x) : trialE (l.take (k + 1)) = addE (trialE (l.take k)) x.acc x.amt := by
  rw [List.take_add_one, h]; exact trialE_snoc _ _
theorem sumAcc_snoc (l : List En) (x : En) (s : ByteArray) : sumAcc (l ++ [x]) s = sumAcc l s + entHit s x := by
  simp only [sumAcc, sumF, List.take_length, List.map_append, List.sum_append, List.map_cons, List.map_nil, List.sum_cons, List.sum_nil]; omega
theorem sumAcc_append (l m : List En) (s : ByteArray) : sumAcc (l ++ m) s = sumAcc l s + sumAcc m s := by
  simp only [sumAcc, sumF, List.take_length, List.map_append, List.sum_append]
theorem trialE_canon (l : List En) : Canon (trialE l) (sumAcc l) := by
  have key : ∀ k, k ≤ l.length → Canon (trialE (l.take k)) (sumAcc (l.take k)) := by
    intro k
    induction k with
    | zero => intro _; exact canon_ext canon_nil fun s => by simp [sumAcc, sumF]
    | succ k ih =>
      intro hk
      have hx : l[k]? = some l[k] := List.getElem?_eq_getElem (by omega)
      rw [trialE_take hx]
      refine canon_ext (canon_add (ih (by omega)) _ _) fun s => ?_
      rw [List.take_add_one, hx]
      show _ = sumAcc (l.take k ++ [l[k]]) s
      rw [sumAcc_snoc, entHit]
      have : (s = l[k].acc) ↔ (l[k].acc = s) := ⟨Eq.symm, Eq.symm⟩
      simp only [this]
  have := key l.length (Nat.le_refl _)
  rwa [List.take_length] at this
theorem trialE_len (l : List En) : (trialE l).length ≤ l.length := by
  have key : ∀ k, k ≤ l.length → (trialE (l.take k)).length ≤ k := by
    intro k
    induction k with
    | zero => intro _; simp [trialE]
    | succ k ih =>
      intro hk
      have hx : l[k]? = some l[k] := List.getElem?_eq_getElem (by omega)
      rw [trialE_take hx]
      have := addE_len (trialE (l.take k)) l[k].acc l[k].amt
      have := ih (by omega)
      omega
  have := key l.length (Nat.le_refl _)
  rwa [List.take_length] at this
theorem sumAcc_bd {l : List En} {M : Int} (hM : 0 ≤ M) (h : ∀ x ∈ l, -M ≤ x.amt ∧ x.amt ≤ M) (s : ByteArray) : -(l.length * M) ≤ sumAcc l s ∧ sumAcc l s ≤ l.length * M :=
  sumF_bd (fun x hx => by have := h x hx; unfold entHit; split <;> omega) _ (Nat.le_refl _)
theorem trialE_amt {l : List En} {x : En} (h : x ∈ trialE l) : x.amt ≠ 0 ∧ x.amt = sumAcc l x.acc := (trialE_canon l).2.1 x h
theorem trialE_acc {l : List En} {x : En} (h : x ∈ trialE l) : ∃ y ∈ l, y.acc = x.acc := by
  have key : ∀ k, k ≤ l.length → ∀ x ∈ trialE (l.take k), ∃ y ∈ l.take k, y.acc = x.acc := by
    intro k
    induction k with
    | zero => intro _ x hx; simp [trialE] at hx
    | succ k ih =>
      intro hk x hx
      have hg : l[k]? = some l[k] := List.getElem?_eq_getElem (by omega)
      rw [trialE_take hg] at hx
      rw [List.take_add_one, hg]
      rcases addE_acc hx with e | hx
      · exact ⟨l[k], List.mem_append.2 (.inr (by simp)), e.symm⟩
      · obtain ⟨y, hy, e⟩ := ih (by omega) x hx
        exact ⟨y, List.mem_append.2 (.inl hy), e⟩
  have := key l.length (Nat.le_refl _)
  rw [List.take_length] at this
  exact this x h
end Go.Proofs.Ytlgodbjbllpipaa
namespace Go.Proofs.Ytlgodbjbllpipaa
open Go.ChangeShapes Go.WideShapes Go.ChangeAt Go.RowKit

theorem areDocs_iff {l : List Doc} : areDocs l = true ↔ (∀ (j : Nat) (d : Doc), l[j]? = some d → docGood j d = true) ∧ l.length ≤ 120 :=
  ⟨fun h => ⟨(areDocs_true h).2, (areDocs_true h).1⟩, fun h => by rw [areDocs_good h.1]; simpa using h.2⟩
theorem with_last (ds : List Doc) (day : Int) (es : List En) : (withDoc ds day es)[ds.length]? = some ⟨(ds.length : Int) + 1, day, es⟩ := by simp [withDoc]
theorem with_old {ds : List Doc} {day : Int} {es : List En} {j : Nat} {d : Doc} (h : ds[j]? = some d) : (withDoc ds day es)[j]? = some d := by
  have := (List.getElem?_eq_some_iff.1 h).1
  unfold withDoc; rw [List.getElem?_append_left this]; exact h
theorem areDocs_with {ds : List Doc} {day : Int} {es : List En} (h : areDocs (withDoc ds day es) = true) : areDocs ds = true ∧ 0 ≤ day ∧ day ≤ 999 ∧ areEntries es = true ∧ ds.length ≤ 119 := by
  obtain ⟨h1, h2⟩ := areDocs_iff.1 h
  rw [withDoc_len] at h2
  have hl := h1 _ _ (with_last ds day es)
  simp only [docGood, Bool.and_eq_true, inB_true] at hl
  exact ⟨areDocs_iff.2 ⟨fun j d hd => h1 j d (with_old hd), by omega⟩, hl.2.1.1, hl.2.1.2, hl.2.2, by omega⟩
theorem docBal_eq (acc : ByteArray) (t : Int) (d : Doc) : docBal acc t d = if d.day ≤ t then sumAcc d.ents acc else 0 := by
  unfold docBal docPart sumAcc; rfl
theorem balance_with {ds : List Doc} {day : Int} {es : List En} (h : areDocs (withDoc ds day es) = true) (acc : ByteArray) (t : Int) : balanceOf (withDoc ds day es) acc t = balanceOf ds acc t + if day ≤ t then sumAcc es acc else 0 := by
  obtain ⟨h1, _⟩ := areDocs_with h
  rw [balanceOf, if_pos h, balanceOf, if_pos h1, balTo, withDoc_len, sumF_succ _ (with_last ds day es), docBal_eq]
  have : sumF (docBal acc t) (withDoc ds day es) ds.length = balTo ds acc t ds.length := by simp [balTo, sumF, withDoc]
  rw [this]
theorem balance_bd (ds : List Doc) (acc : ByteArray) (t : Int) : -1440000000000 ≤ balanceOf ds acc t ∧ balanceOf ds acc t ≤ 1440000000000 := by
  unfold balanceOf
  split
  · rename_i h; exact bal_bd h acc t _ (Nat.le_refl _)
  · omega
theorem areEntries_bd {es : List En} (h : areEntries es = true) (acc : ByteArray) (k : Nat) (hk : k ≤ es.length) : -12000000000 ≤ sumF (entHit acc) es k ∧ sumF (entHit acc) es k ≤ 12000000000 := by
  have b := sumF_bd (M := 1000000000) (hit_bd h acc) k hk
  have := (areEntries_true h).2.2.2
  omega
end Go.Proofs.Ytlgodbjbllpipaa
namespace Go.Proofs.Ytlgodbjbllpipaa
open Go.ChangeShapes Go.WideShapes Go.ChangeAt Go.RowKit

theorem areBk_true {ss : List Shf} {k : Int} {ds : List Doc} (h : areBk ss k ds = true) : (∀ (j : Nat) (x : Shf), ss[j]? = some x → shGood ss j x = true) ∧ ss.length ≤ 12 ∧ (0 ≤ k ∧ k ≤ 1000000000) ∧ areDocs ds = true := by
  simp only [areBk, Bool.and_eq_true, decide_eq_true_eq] at h
  exact ⟨fun j x hx => allAt_true h.1 hx, h.2.1, inB_true.1 h.2.2.1, h.2.2.2⟩
def shW (s : Shf) : Int := worthOf s.lays
theorem worthOf_bd24 (l : List Lay) : 0 ≤ worthOf l ∧ worthOf l ≤ 24000000000 := by
  unfold worthOf; split
  · rename_i h
    have := sumTo_bd24 (worth_bd h) (by omega) (areLayers_len h) l.length (Nat.le_refl _)
    unfold sumL; omega
  · omega
def stockW (ss : List Shf) (k : Int) (ds : List Doc) : Int := if areBk ss k ds then sumF shW ss ss.length else 0
theorem stock_bd {ss : List Shf} (h : ss.length ≤ 12) (j : Nat) (hj : j ≤ ss.length) : 0 ≤ sumF shW ss j ∧ sumF shW ss j ≤ 288000000000 := by
  have b := sumF_bd (f := shW) (l := ss) (M := 24000000000) (fun s _ => by have := worthOf_bd24 s.lays; unfold shW; omega) j hj
  have := sumF_nonneg (f := shW) (l := ss) (fun s _ => (worthOf_bd24 s.lays).1) j
  omega
theorem stockW_bd (ss : List Shf) (k : Int) (ds : List Doc) : 0 ≤ stockW ss k ds ∧ stockW ss k ds ≤ 288000000000 := by
  unfold stockW; split
  · rename_i h; exact stock_bd (areBk_true h).2.1 _ (Nat.le_refl _)
  · omega

set_option maxRecDepth 100000 in
set_option maxHeartbeats 4000000 in
theorem implStockWorth (sA : Option Addr) (sn sc : Nat) (k : Int) (dA : Option Addr) (dn dc : Nat) (ss : List Shf) (ds : List Doc) (w : World) (hr : ShelvesR w sA sn ss) (hd : DocsR w dA dn ds) (hn : sn ≤ 1048600) (hm : dn ≤ 1048600) (hss : shsSmall ss) (hds : docsSmall ds) :
    Calls Try.prog 18 #[.agg #[.slice sA sn sc, .int .i64 k, .slice dA dn dc]] w fun e w' => e = .returned (.int .i64 (stockW ss k ds)) ∧ Below w.heap.size w w' := by
  have hl := Lib.hid hr.len
  have SS := Lib.hid hss; have DS := Lib.hid hds
  clear hss hds
  have b0 := Lib.hid (below_box w (Obj.cells #[.slice sA sn sc, .int .i64 k, .slice dA dn dc] 31))
  have X := Lib.hid (blk_new1 w (Obj.cells #[.slice sA sn sc, .int .i64 k, .slice dA dn dc] 31))
  have hr := hr.below b0.out; have hd := hd.below b0.out
  cases h : areBk ss k ds
  · have H := Lib.hid h; clear h
    go_enter Try.func18, Try.ntmps18
    go_wp2_with fail
    generalize hwo : w.alloc (Obj.cells #[.slice sA sn sc, .int .i64 k, .slice dA dn dc] 31) = wo at *
    clear hwo
    refine (implAreBooks _ _ _ k _ _ _ ss ds _ hr hd hn hm SS.out DS.out).mono ?_; rw [H.out]; rintro e w1 ⟨rfl, hb1⟩
    go_wp2_with fail
    go_ret
    exact ⟨ret_int (by simp [stockW, H.out]), below_app b0.out hb1 b0.out.size⟩
  · have SB := Lib.hid (fun j (hj : j ≤ sn) => stock_bd (areBk_true h).2.1 j (by rw [hl.out]; exact hj))
    have H := Lib.hid h; clear h
    go_enter Try.func18, Try.ntmps18
    go_wp2_with fail
    generalize hwo : w.alloc (Obj.cells #[.slice sA sn sc, .int .i64 k, .slice dA dn dc] 31) = wo at *
    clear hwo
    refine (implAreBooks _ _ _ k _ _ _ ss ds _ hr hd hn hm SS.out DS.out).mono ?_; rw [H.out]; rintro e w1 ⟨rfl, hb1⟩
    have x0 := blk_at (blk_keep hb1 X.out) (j := 0) rfl
    go_wp2_with fail
    go_loopw [3, 12] (fun t i wr => ∃ j : Nat, j ≤ sn ∧ i = .int .i64 j ∧ t = .int .i64 (sumF shW ss j) ∧ Below wo.heap.size wo wr) (fun _ i _ => sn - (intOf i).toNat)
    case atStart => exact ⟨0, Nat.zero_le _, rfl, by rw [sumF_zero], hb1⟩
    case round =>
      obtain ⟨j, hj, rfl, rfl, hb⟩ := hrel
      have hz := hb.size
      by_cases hlt : j < sn
      · obtain ⟨g, off, rfl, ⟨item, ids, lays⟩, iA, iN, iC, lA, lN, lC, hx, c0, c1, c2, hi, hlr⟩ := (hr.below hb).shAt hlt
        have HS := Lib.hid (show sumF shW ss (j + 1) = sumF shW ss j + worthOf lays by rw [sumF_succ shW hx]; rfl)
        obtain ⟨s1, s2, s3⟩ := SS.out _ (List.mem_of_getElem? hx)
        simp only at c0 c1 c2 hi hlr s1 s2 s3
        have sl := hlr.lay
        have n2 : lN ≤ 1000000000 := by rw [← sl]; omega
        clear hx s1 s2 s3 sl hi
        have sb := SB.out j (by omega)
        have wb := worthOf_bd24 lays
        have i1 : (0 : Int) ≤ j := by omega
        have i2 : (j : Int) < sn := by omega
        go_wp2_with fail
        refine (implWorthOf _ _ _ lays _ (hlr.alloc _) n2).mono ?_; rintro e w2 ⟨rfl, hb2⟩
        have b2 := below_app hb (below_then (below_box _ _) hb2) hb.size
        clear hb2
        go_wp2_with fail
        go_roundw
        case rel => exact ⟨j + 1, by omega, by go_num, by rw [HS.out], b2⟩
        case measure => simp [intOf]; omega
      · obtain rfl : sn = j := by omega
        go_wp2_with fail
        go_ret
        exact ⟨ret_int (by rw [stockW, if_pos H.out, hl.out]), below_app b0.out hb b0.out.size⟩
set_option maxRecDepth 100000 in
set_option maxHeartbeats 4000000 in
theorem specStockWorth (sA : Option Addr) (sn sc : Nat) (k : Int) (dA : Option Addr) (dn dc : Nat) (ss : List Shf) (ds : List Doc) (w : World) (hr : ShelvesR w sA sn ss) (hd : DocsR w dA dn ds) (hn : sn ≤ 1048600) (hm : dn ≤ 1048600) (hss : shsSmall ss) (hds : docsSmall ds) :
    Calls Try.prog 17 #[.agg #[.slice sA sn sc, .int .i64 k, .slice dA dn dc]] w fun e w' => e = .returned (.int .i64 (stockW ss k ds)) ∧ Below w.heap.size w w' := by
  have hl := Lib.hid hr.len
  have SS := Lib.hid hss; have DS := Lib.hid hds
  clear hss hds
  have b0 := Lib.hid (below_box w (Obj.cells #[.slice sA sn sc, .int .i64 k, .slice dA dn dc] 31))
  have X := Lib.hid (blk_new1 w (Obj.cells #[.slice sA sn sc, .int .i64 k, .slice dA dn dc] 31))
  have hr := hr.below b0.out; have hd := hd.below b0.out
  cases h : areBk ss k ds
  · have H := Lib.hid h; clear h
    by_cases h0 : 0 < sn
    ·
      have x0 := blk_at X.out (j := 0) rfl; have x1 := blk_at X.out (j := 1) rfl; have x2 := blk_at X.out (j := 2) rfl
      go_enter Try.func17, Try.ntmps17
      go_wp2_with fail
      generalize hwo : w.alloc (Obj.cells #[.slice sA sn sc, .int .i64 k, .slice dA dn dc] 31) = wo at *
      clear hwo
      refine wp_loop_once ?_
      have i2 : (0 : Int) < sn := by omega
      go_wp2_with (go_at_call 15; refine (specAreBooks _ _ _ k _ _ _ ss ds _ hr hd hn hm SS.out DS.out).mono ?_; rw [H.out]; rintro e w1 ⟨rfl, hb1⟩)
      go_ret
      exact ⟨ret_int (by simp [stockW, H.out]), below_app b0.out hb1 b0.out.size⟩
    · have i2 : ¬ (0 : Int) < sn := by omega
      have x0 := blk_at X.out (j := 0) rfl; have x1 := blk_at X.out (j := 1) rfl; have x2 := blk_at X.out (j := 2) rfl
      go_enter Try.func17, Try.ntmps17
      go_wp2_with fail
      generalize hwo : w.alloc (Obj.cells #[.slice sA sn sc, .int .i64 k, .slice dA dn dc] 31) = wo at *
      clear hwo
      refine wp_loop_once ?_
      go_wp2_with fail
      go_ret
      exact ⟨ret_int (by simp [stockW, H.out]), below_app b0.out (Below.refl _ _) b0.out.size⟩
  · have SB := Lib.hid (fun j (hj : j ≤ sn) => stock_bd (areBk_true h).2.1 j (by rw [hl.out]; exact hj))
    have H := Lib.hid h; clear h
    go_enter Try.func17, Try.ntmps17
    go_wp2_with fail
    generalize hwo : w.alloc (Obj.cells #[.slice sA sn sc, .int .i64 k, .slice dA dn dc] 31) = wo at *
    clear hwo
    go_loopw [3, 4] (fun t i wr => ∃ j : Nat, j ≤ sn ∧ i = .int .i64 j ∧ t = .int .i64 (sumF shW ss j) ∧ Below wo.heap.size wo wr) (fun _ i _ => sn - (intOf i).toNat)
    case atStart => exact ⟨0, Nat.zero_le _, rfl, by rw [sumF_zero], Below.refl _ _⟩
    case round =>
      obtain ⟨j, hj, rfl, rfl, hb⟩ := hrel
      have hz := hb.size
      by_cases hlt : j < sn
      · obtain ⟨g, off, rfl, ⟨item, ids, lays⟩, iA, iN, iC, lA, lN, lC, hx, c0, c1, c2, hi, hlr⟩ := (hr.below hb).shAt hlt
        have HS := Lib.hid (show sumF shW ss (j + 1) = sumF shW ss j + worthOf lays by rw [sumF_succ shW hx]; rfl)
        obtain ⟨s1, s2, s3⟩ := SS.out _ (List.mem_of_getElem? hx)
        simp only at c0 c1 c2 hi hlr s1 s2 s3
        have sl := hlr.lay
        have n2 : lN ≤ 1000000000 := by rw [← sl]; omega
        clear hx s1 s2 s3 sl hi
        have sb := SB.out j (by omega)
        have wb := worthOf_bd24 lays
        have i1 : (0 : Int) ≤ j := by omega
        have i2 : (j : Int) < sn := by omega
        have x0 := blk_at (blk_keep hb X.out) (j := 0) rfl; have x1 := blk_at (blk_keep hb X.out) (j := 1) rfl; have x2 := blk_at (blk_keep hb X.out) (j := 2) rfl
        go_wp2_with (first
          | (go_at_call 15; refine (specAreBooks _ _ _ k _ _ _ ss ds _ (hr.below hb) (hd.below hb) hn hm SS.out DS.out).mono ?_; rw [H.out]; rintro e w1 ⟨rfl, hb1⟩; have y0 := cell_keep hb1 x0; have y2 := cell_keep hb1 c2; have hlr := hlr.below hb1)
          | (go_at_call 49; refine (specWorthOf _ _ _ lays _ hlr n2).mono ?_; rintro e w2 ⟨rfl, hb2⟩))
        have b2 := below_app (below_app hb hb1 hb.size) hb2 (Nat.le_trans hb.size hb1.size)
        clear hb1 hb2
        go_roundw
        case rel => exact ⟨j + 1, by omega, by go_num, by rw [HS.out], b2⟩
        case measure => simp [intOf]; omega
      · obtain rfl : sn = j := by omega
        have x0 := blk_at (blk_keep hb X.out) (j := 0) rfl
        go_wp2_with fail
        go_ret
        exact ⟨ret_int (by rw [stockW, if_pos H.out, hl.out]), below_app b0.out hb b0.out.size⟩
end Go.Proofs.Ytlgodbjbllpipaa
namespace Go.Proofs.Ytlgodbjbllpipaa
open Go.ChangeShapes Go.WideShapes Go.ChangeAt Go.RowKit

def agree (ss : List Shf) (k : Int) (ds : List Doc) : Bool := areBk ss k ds && ((balanceOf ds ⟨#[83, 84, 79, 67, 75]⟩ 999 == stockW ss k ds) && (balanceOf ds ⟨#[87, 79, 82, 75]⟩ 999 == k))

set_option maxRecDepth 100000 in
set_option maxHeartbeats 4000000 in
theorem implBooksAgree (sA : Option Addr) (sn sc : Nat) (k : Int) (dA : Option Addr) (dn dc : Nat) (ss : List Shf) (ds : List Doc) (w : World) (hr : ShelvesR w sA sn ss) (hd : DocsR w dA dn ds) (hn : sn ≤ 1048600) (hm : dn ≤ 1048600) (hss : shsSmall ss) (hds : docsSmall ds) :
    Calls Try.prog 22 #[.agg #[.slice sA sn sc, .int .i64 k, .slice dA dn dc]] w fun e w' => e = .returned (.bool (agree ss k ds)) ∧ Below w.heap.size w w' := by
  have hl := Lib.hid hr.len
  have SS := Lib.hid hss; have DS := Lib.hid hds
  clear hss hds
  have b0 := Lib.hid (below_box w (Obj.cells #[.slice sA sn sc, .int .i64 k, .slice dA dn dc] 31))
  have X := Lib.hid (blk_new1 w (Obj.cells #[.slice sA sn sc, .int .i64 k, .slice dA dn dc] 31))
  have hr := hr.below b0.out; have hd := hd.below b0.out
  cases h : areBk ss k ds
  · have R := Lib.hid (show agree ss k ds = false by simp [agree, h])
    have hA : ∀ w, ShelvesR w sA sn ss → DocsR w dA dn ds → Calls Try.prog 16 #[.agg #[.slice sA sn sc, .int .i64 k, .slice dA dn dc]] w fun e w' => e = .returned (.bool false) ∧ Below w.heap.size w w' := fun w hr hd => by have q := implAreBooks _ sn sc k _ dn dc ss ds w hr hd hn hm SS.out DS.out; rw [h] at q; exact q
    clear h
    have x0 := cell_wext (blk_at X.out (j := 0) rfl); have x1 := cell_wext (blk_at X.out (j := 1) rfl); have x2 := cell_wext (blk_at X.out (j := 2) rfl)
    go_enter Try.func22, Try.ntmps22
    go_wp2_with fail
    generalize hwo : w.alloc (Obj.cells #[.slice sA sn sc, .int .i64 k, .slice dA dn dc] 31) = wo at *
    clear hwo
    refine wp_region_ext (by kernel_rfl) (by kernel_rfl) ?_
    repeat (go_big_quiet_step (first | (go_at_call 16; exact ext_call (hA _ (hr.below (below_wext _ _)) (hd.below (below_wext _ _)))) | (go_at_call 18; exact ext_call (implStockWorth _ _ _ k _ _ _ ss ds _ (hr.below (below_wext _ _)) (hd.below (below_wext _ _)) hn hm SS.out DS.out)) | (go_at_call 55; exact ext_call (implBalance _ _ _ ds _ _ _ (hd.below (below_wext _ _)) hm DS.out))))
    refine wpQuiet_nil ?_
    intro _ hw'; obtain ⟨nq, hw''⟩ := hw'; subst hw''
    have b2 := below_wext wo nq
    go_wp2_with fail
    go_ret
    exact ⟨ret_bool R.out.symm, below_app b0.out b2 b0.out.size⟩
  · cases h1 : (balanceOf ds ⟨#[83, 84, 79, 67, 75]⟩ 999 == stockW ss k ds)
    · have R := Lib.hid (show agree ss k ds = false by simp only [agree, h1]; simp)
      have hA : ∀ w, ShelvesR w sA sn ss → DocsR w dA dn ds → Calls Try.prog 16 #[.agg #[.slice sA sn sc, .int .i64 k, .slice dA dn dc]] w fun e w' => e = .returned (.bool true) ∧ Below w.heap.size w w' := fun w hr hd => by have q := implAreBooks _ sn sc k _ dn dc ss ds w hr hd hn hm SS.out DS.out; rw [h] at q; exact q
      clear h
      have x0 := cell_wext (blk_at X.out (j := 0) rfl); have x1 := cell_wext (blk_at X.out (j := 1) rfl); have x2 := cell_wext (blk_at X.out (j := 2) rfl)
      go_enter Try.func22, Try.ntmps22
      go_wp2_with fail
      generalize hwo : w.alloc (Obj.cells #[.slice sA sn sc, .int .i64 k, .slice dA dn dc] 31) = wo at *
      clear hwo
      refine wp_region_ext (by kernel_rfl) (by kernel_rfl) ?_
      repeat (go_big_quiet_step (first | (go_at_call 16; exact ext_call (hA _ (hr.below (below_wext _ _)) (hd.below (below_wext _ _)))) | (go_at_call 18; exact ext_call (implStockWorth _ _ _ k _ _ _ ss ds _ (hr.below (below_wext _ _)) (hd.below (below_wext _ _)) hn hm SS.out DS.out)) | (go_at_call 55; exact ext_call (implBalance _ _ _ ds _ _ _ (hd.below (below_wext _ _)) hm DS.out))))
      refine wpQuiet_nil ?_
      intro _ hw'; obtain ⟨nq, hw''⟩ := hw'; subst hw''
      have b2 := below_wext wo nq
      go_wp2_with fail
      go_ret
      exact ⟨ret_bool R.out.symm, below_app b0.out b2 b0.out.size⟩
    · have R := Lib.hid (show agree ss k ds = (balanceOf ds ⟨#[87, 79, 82, 75]⟩ 999 == k) by simp only [agree, h, h1]; simp)
      have hA : ∀ w, ShelvesR w sA sn ss → DocsR w dA dn ds → Calls Try.prog 16 #[.agg #[.slice sA sn sc, .int .i64 k, .slice dA dn dc]] w fun e w' => e = .returned (.bool true) ∧ Below w.heap.size w w' := fun w hr hd => by have q := implAreBooks _ sn sc k _ dn dc ss ds w hr hd hn hm SS.out DS.out; rw [h] at q; exact q
      clear h
      have x0 := cell_wext (blk_at X.out (j := 0) rfl); have x1 := cell_wext (blk_at X.out (j := 1) rfl); have x2 := cell_wext (blk_at X.out (j := 2) rfl)
      go_enter Try.func22, Try.ntmps22
      go_wp2_with fail
      generalize hwo : w.alloc (Obj.cells #[.slice sA sn sc, .int .i64 k, .slice dA dn dc] 31) = wo at *
      clear hwo
      refine wp_region_ext (by kernel_rfl) (by kernel_rfl) ?_
      repeat (go_big_quiet_step (first | (go_at_call 16; exact ext_call (hA _ (hr.below (below_wext _ _)) (hd.below (below_wext _ _)))) | (go_at_call 18; exact ext_call (implStockWorth _ _ _ k _ _ _ ss ds _ (hr.below (below_wext _ _)) (hd.below (below_wext _ _)) hn hm SS.out DS.out)) | (go_at_call 55; exact ext_call (implBalance _ _ _ ds _ _ _ (hd.below (below_wext _ _)) hm DS.out))))
      refine wpQuiet_nil ?_
      intro _ hw'; obtain ⟨nq, hw''⟩ := hw'; subst hw''
      have b2 := below_wext wo nq
      go_wp2_with fail
      go_ret
      exact ⟨ret_bool R.out.symm, below_app b0.out b2 b0.out.size⟩
set_option maxRecDepth 100000 in
set_option maxHeartbeats 4000000 in
theorem specBooksAgree (sA : Option Addr) (sn sc : Nat) (k : Int) (dA : Option Addr) (dn dc : Nat) (ss : List Shf) (ds : List Doc) (w : World) (hr : ShelvesR w sA sn ss) (hd : DocsR w dA dn ds) (hn : sn ≤ 1048600) (hm : dn ≤ 1048600) (hss : shsSmall ss) (hds : docsSmall ds) :
    Calls Try.prog 21 #[.agg #[.slice sA sn sc, .int .i64 k, .slice dA dn dc]] w fun e w' => e = .returned (.bool (agree ss k ds)) ∧ Below w.heap.size w w' := by
  have hl := Lib.hid hr.len
  have SS := Lib.hid hss; have DS := Lib.hid hds
  clear hss hds
  have b0 := Lib.hid (below_box w (Obj.cells #[.slice sA sn sc, .int .i64 k, .slice dA dn dc] 31))
  have X := Lib.hid (blk_new1 w (Obj.cells #[.slice sA sn sc, .int .i64 k, .slice dA dn dc] 31))
  have hr := hr.below b0.out; have hd := hd.below b0.out
  cases h : areBk ss k ds
  · have R := Lib.hid (show agree ss k ds = false by simp [agree, h])
    have hA : ∀ w, ShelvesR w sA sn ss → DocsR w dA dn ds → Calls Try.prog 15 #[.agg #[.slice sA sn sc, .int .i64 k, .slice dA dn dc]] w fun e w' => e = .returned (.bool false) ∧ Below w.heap.size w w' := fun w hr hd => by have q := specAreBooks _ sn sc k _ dn dc ss ds w hr hd hn hm SS.out DS.out; rw [h] at q; exact q
    clear h
    have x0 := cell_wext (blk_at X.out (j := 0) rfl); have x1 := cell_wext (blk_at X.out (j := 1) rfl); have x2 := cell_wext (blk_at X.out (j := 2) rfl)
    go_enter Try.func21, Try.ntmps21
    go_wp2_with fail
    generalize hwo : w.alloc (Obj.cells #[.slice sA sn sc, .int .i64 k, .slice dA dn dc] 31) = wo at *
    clear hwo
    refine wp_region_ext (by kernel_rfl) (by kernel_rfl) ?_
    repeat (go_big_quiet_step (first | (go_at_call 15; exact ext_call (hA _ (hr.below (below_wext _ _)) (hd.below (below_wext _ _)))) | (go_at_call 17; exact ext_call (specStockWorth _ _ _ k _ _ _ ss ds _ (hr.below (below_wext _ _)) (hd.below (below_wext _ _)) hn hm SS.out DS.out)) | (go_at_call 32; exact ext_call (specBalance _ _ _ ds _ _ _ (hd.below (below_wext _ _)) hm DS.out))))
    refine wpQuiet_nil ?_
    intro _ hw'; obtain ⟨nq, hw''⟩ := hw'; subst hw''
    have b2 := below_wext wo nq
    go_wp2_with fail
    go_ret
    exact ⟨ret_bool R.out.symm, below_app b0.out b2 b0.out.size⟩
  · cases h1 : (balanceOf ds ⟨#[83, 84, 79, 67, 75]⟩ 999 == stockW ss k ds)
    · have R := Lib.hid (show agree ss k ds = false by simp only [agree, h1]; simp)
      have hA : ∀ w, ShelvesR w sA sn ss → DocsR w dA dn ds → Calls Try.prog 15 #[.agg #[.slice sA sn sc, .int .i64 k, .slice dA dn dc]] w fun e w' => e = .returned (.bool true) ∧ Below w.heap.size w w' := fun w hr hd => by have q := specAreBooks _ sn sc k _ dn dc ss ds w hr hd hn hm SS.out DS.out; rw [h] at q; exact q
      clear h
      have x0 := cell_wext (blk_at X.out (j := 0) rfl); have x1 := cell_wext (blk_at X.out (j := 1) rfl); have x2 := cell_wext (blk_at X.out (j := 2) rfl)
      go_enter Try.func21, Try.ntmps21
      go_wp2_with fail
      generalize hwo : w.alloc (Obj.cells #[.slice sA sn sc, .int .i64 k, .slice dA dn dc] 31) = wo at *
      clear hwo
      refine wp_region_ext (by kernel_rfl) (by kernel_rfl) ?_
      repeat (go_big_quiet_step (first | (go_at_call 15; exact ext_call (hA _ (hr.below (below_wext _ _)) (hd.below (below_wext _ _)))) | (go_at_call 17; exact ext_call (specStockWorth _ _ _ k _ _ _ ss ds _ (hr.below (below_wext _ _)) (hd.below (below_wext _ _)) hn hm SS.out DS.out)) | (go_at_call 32; exact ext_call (specBalance _ _ _ ds _ _ _ (hd.below (below_wext _ _)) hm DS.out))))
      refine wpQuiet_nil ?_
      intro _ hw'; obtain ⟨nq, hw''⟩ := hw'; subst hw''
      have b2 := below_wext wo nq
      go_wp2_with fail
      go_ret
      exact ⟨ret_bool R.out.symm, below_app b0.out b2 b0.out.size⟩
    · have R := Lib.hid (show agree ss k ds = (balanceOf ds ⟨#[87, 79, 82, 75]⟩ 999 == k) by simp only [agree, h, h1]; simp)
      have hA : ∀ w, ShelvesR w sA sn ss → DocsR w dA dn ds → Calls Try.prog 15 #[.agg #[.slice sA sn sc, .int .i64 k, .slice dA dn dc]] w fun e w' => e = .returned (.bool true) ∧ Below w.heap.size w w' := fun w hr hd => by have q := specAreBooks _ sn sc k _ dn dc ss ds w hr hd hn hm SS.out DS.out; rw [h] at q; exact q
      clear h
      have x0 := cell_wext (blk_at X.out (j := 0) rfl); have x1 := cell_wext (blk_at X.out (j := 1) rfl); have x2 := cell_wext (blk_at X.out (j := 2) rfl)
      go_enter Try.func21, Try.ntmps21
      go_wp2_with fail
      generalize hwo : w.alloc (Obj.cells #[.slice sA sn sc, .int .i64 k, .slice dA dn dc] 31) = wo at *
      clear hwo
      refine wp_region_ext (by kernel_rfl) (by kernel_rfl) ?_
      repeat (go_big_quiet_step (first | (go_at_call 15; exact ext_call (hA _ (hr.below (below_wext _ _)) (hd.below (below_wext _ _)))) | (go_at_call 17; exact ext_call (specStockWorth _ _ _ k _ _ _ ss ds _ (hr.below (below_wext _ _)) (hd.below (below_wext _ _)) hn hm SS.out DS.out)) | (go_at_call 32; exact ext_call (specBalance _ _ _ ds _ _ _ (hd.below (below_wext _ _)) hm DS.out))))
      refine wpQuiet_nil ?_
      intro _ hw'; obtain ⟨nq, hw''⟩ := hw'; subst hw''
      have b2 := below_wext wo nq
      go_wp2_with fail
      go_ret
      exact ⟨ret_bool R.out.symm, below_app b0.out b2 b0.out.size⟩
end Go.Proofs.Ytlgodbjbllpipaa
namespace Go.Proofs.Ytlgodbjbllpipaa
open Go.ChangeShapes Go.WideShapes Go.ChangeAt Go.RowKit

def onShelf (ss : List Shf) (k : Int) (ds : List Doc) (s : ByteArray) : Int := if areBk ss k ds then (match ss[(shelfAt ss s).toNat]? with | some x => if shelfAt ss s < 0 then 0 else leftOf x.lays | none => 0) else 0
theorem onShelf_no {ss : List Shf} {k : Int} {ds : List Doc} {s : ByteArray} (h : areBk ss k ds = false ∨ shelfAt ss s < 0) : onShelf ss k ds s = 0 := by
  unfold onShelf; split
  · rename_i hb
    rcases h with h | h
    · rw [h] at hb; cases hb
    · split
      · rw [if_pos h]
      · rfl
  · rfl
theorem onShelf_at {ss : List Shf} {k : Int} {ds : List Doc} {s : ByteArray} {j : Nat} {x : Shf} (h : areBk ss k ds = true) (hj : shelfAt ss s = j) (hx : ss[j]? = some x) : onShelf ss k ds s = leftOf x.lays := by
  have : (shelfAt ss s).toNat = j := by omega
  unfold onShelf; rw [if_pos h, this, hx]
  simp only
  rw [if_neg (by omega)]

set_option maxRecDepth 100000 in
set_option maxHeartbeats 4000000 in
theorem implOnShelf (sA : Option Addr) (sn sc : Nat) (k : Int) (dA : Option Addr) (dn dc : Nat) (ss : List Shf) (ds : List Doc) (s : ByteArray) (w : World) (hr : ShelvesR w sA sn ss) (hd : DocsR w dA dn ds) (hn : sn ≤ 1048600) (hm : dn ≤ 1048600) (hss : shsSmall ss) (hds : docsSmall ds) :
    Calls Try.prog 20 #[.agg #[.slice sA sn sc, .int .i64 k, .slice dA dn dc], .string s] w fun e w' => e = .returned (.int .i64 (onShelf ss k ds s)) ∧ Below w.heap.size w w' := by
  have hl := Lib.hid hr.len
  have SS := Lib.hid hss; have DS := Lib.hid hds
  clear hss hds
  have b0 := Lib.hid (below_box w (Obj.cells #[.slice sA sn sc, .int .i64 k, .slice dA dn dc] 31))
  have X := Lib.hid (blk_new1 w (Obj.cells #[.slice sA sn sc, .int .i64 k, .slice dA dn dc] 31))
  have hr := hr.below b0.out; have hd := hd.below b0.out
  rcases shelfAt_cases ss s with ⟨hk, _⟩ | ⟨j, ⟨item, ids, lays⟩, hk, hx, _, _⟩
  · have R := Lib.hid (onShelf_no (k := k) (ds := ds) (s := s) (.inr (show shelfAt ss s < 0 by omega)))
    have HK := Lib.hid hk; clear hk
    cases h : areBk ss k ds
    all_goals
      have H := Lib.hid h; clear h
      have x0 := blk_at X.out (j := 0) rfl; have x1 := blk_at X.out (j := 1) rfl; have x2 := blk_at X.out (j := 2) rfl
      go_enter Try.func20, Try.ntmps20
      go_wp2_with fail
      generalize hwo : w.alloc (Obj.cells #[.slice sA sn sc, .int .i64 k, .slice dA dn dc] 31) = wo at *
      clear hwo
      go_wp2_with (first | (go_at_call 53; refine (implShelfOf _ _ _ k _ _ _ ss s _ hr hn).mono ?_; rw [HK.out]; rintro e w1 ⟨rfl, hb1⟩; have y0 := blk_at (blk_keep hb1 X.out) (j := 0) rfl; have y1 := blk_at (blk_keep hb1 X.out) (j := 1) rfl; have y2 := blk_at (blk_keep hb1 X.out) (j := 2) rfl; have hr1 := hr.below hb1; have hd1 := hd.below hb1) | (go_at_call 16; refine (implAreBooks _ _ _ k _ _ _ ss ds _ hr1 hd1 hn hm SS.out DS.out).mono ?_; rw [H.out]; rintro e w2 ⟨rfl, hb2⟩; have z0 := blk_at (blk_keep hb2 (blk_keep hb1 X.out)) (j := 0) rfl; have hr2 := hr1.below hb2))
      go_ret
      exact ⟨ret_int (by rw [R.out]), below_app b0.out (by first | exact below_app hb1 hb2 hb1.size | exact hb1) b0.out.size⟩
  · have hj : j < sn := by rw [← hl.out]; exact (List.getElem?_eq_some_iff.1 hx).1
    have HK := Lib.hid hk
    have HX := Lib.hid hx
    obtain ⟨s1, s2, s3⟩ := SS.out _ (List.mem_of_getElem? hx)
    simp only at s1 s2 s3
    cases h : areBk ss k ds
    · have R := Lib.hid (onShelf_no (s := s) (.inl h))
      have H := Lib.hid h; clear h hk hx
      have x0 := blk_at X.out (j := 0) rfl; have x1 := blk_at X.out (j := 1) rfl; have x2 := blk_at X.out (j := 2) rfl
      go_enter Try.func20, Try.ntmps20
      go_wp2_with fail
      generalize hwo : w.alloc (Obj.cells #[.slice sA sn sc, .int .i64 k, .slice dA dn dc] 31) = wo at *
      clear hwo
      go_wp2_with (first | (go_at_call 53; refine (implShelfOf _ _ _ k _ _ _ ss s _ hr hn).mono ?_; rw [HK.out]; rintro e w1 ⟨rfl, hb1⟩; have y0 := blk_at (blk_keep hb1 X.out) (j := 0) rfl; have y1 := blk_at (blk_keep hb1 X.out) (j := 1) rfl; have y2 := blk_at (blk_keep hb1 X.out) (j := 2) rfl; have hr1 := hr.below hb1; have hd1 := hd.below hb1) | (go_at_call 16; refine (implAreBooks _ _ _ k _ _ _ ss ds _ hr1 hd1 hn hm SS.out DS.out).mono ?_; rw [H.out]; rintro e w2 ⟨rfl, hb2⟩; have z0 := blk_at (blk_keep hb2 (blk_keep hb1 X.out)) (j := 0) rfl; have hr2 := hr1.below hb2))
      go_ret
      exact ⟨ret_int (by rw [R.out]), below_app b0.out (below_app hb1 hb2 hb1.size) b0.out.size⟩
    · have R := Lib.hid (onShelf_at h hk hx)
      have H := Lib.hid h; clear h hk hx
      simp only at R
      have x0 := blk_at X.out (j := 0) rfl; have x1 := blk_at X.out (j := 1) rfl; have x2 := blk_at X.out (j := 2) rfl
      go_enter Try.func20, Try.ntmps20
      go_wp2_with fail
      generalize hwo : w.alloc (Obj.cells #[.slice sA sn sc, .int .i64 k, .slice dA dn dc] 31) = wo at *
      clear hwo
      have i1 : (0 : Int) ≤ j := by omega
      have i2 : (j : Int) < sn := by omega
      obtain ⟨g, off, rfl, ⟨item', ids', lays'⟩, iA, iN, iC, lA, lN, lC, hx', c0, c1, c2, hi, hlr⟩ := hr.shAt hj
      rw [HX.out] at hx'
      have hx' := Option.some.inj hx'
      injection hx' with e1 e2 e3
      subst e1 e2 e3
      simp only at c0 c1 c2 hi hlr
      have sl := hlr.lay
      have n2 : lN ≤ 1000000000 := by rw [← sl]; omega
      clear sl hi
      go_wp2_with (first | (go_at_call 53; refine (implShelfOf _ _ _ k _ _ _ ss s _ hr hn).mono ?_; rw [HK.out]; rintro e w1 ⟨rfl, hb1⟩; have y0 := blk_at (blk_keep hb1 X.out) (j := 0) rfl; have y1 := blk_at (blk_keep hb1 X.out) (j := 1) rfl; have y2 := blk_at (blk_keep hb1 X.out) (j := 2) rfl; have hr1 := hr.below hb1; have hd1 := hd.below hb1) | (go_at_call 16; refine (implAreBooks _ _ _ k _ _ _ ss ds _ hr1 hd1 hn hm SS.out DS.out).mono ?_; rw [H.out]; rintro e w2 ⟨rfl, hb2⟩; have z0 := blk_at (blk_keep hb2 (blk_keep hb1 X.out)) (j := 0) rfl; have hr2 := hr1.below hb2; have q2 := cell_keep hb2 (cell_keep hb1 c2); have hl2 := (hlr.below hb1).below hb2) | (go_at_call 54; refine (implLeftOf _ _ _ lays _ hl2 n2).mono ?_; rintro e w3 ⟨rfl, hb3⟩))
      go_ret
      exact ⟨ret_int (by rw [R.out]), below_app b0.out (below_app (below_app hb1 hb2 hb1.size) hb3 (Nat.le_trans hb1.size hb2.size)) b0.out.size⟩
set_option maxRecDepth 100000 in
set_option maxHeartbeats 4000000 in
theorem specOnShelf (sA : Option Addr) (sn sc : Nat) (k : Int) (dA : Option Addr) (dn dc : Nat) (ss : List Shf) (ds : List Doc) (s : ByteArray) (w : World) (hr : ShelvesR w sA sn ss) (hd : DocsR w dA dn ds) (hn : sn ≤ 1048600) (hm : dn ≤ 1048600) (hss : shsSmall ss) (hds : docsSmall ds) :
    Calls Try.prog 19 #[.agg #[.slice sA sn sc, .int .i64 k, .slice dA dn dc], .string s] w fun e w' => e = .returned (.int .i64 (onShelf ss k ds s)) ∧ Below w.heap.size w w' := by
  have hl := Lib.hid hr.len
  have SS := Lib.hid hss; have DS := Lib.hid hds
  clear hss hds
  have b0 := Lib.hid (below_box w (Obj.cells #[.slice sA sn sc, .int .i64 k, .slice dA dn dc] 31))
  have X := Lib.hid (blk_new1 w (Obj.cells #[.slice sA sn sc, .int .i64 k, .slice dA dn dc] 31))
  have hr := hr.below b0.out; have hd := hd.below b0.out
  rcases shelfAt_cases ss s with ⟨hk, _⟩ | ⟨j, ⟨item, ids, lays⟩, hk, hx, _, _⟩
  · have R := Lib.hid (onShelf_no (k := k) (ds := ds) (s := s) (.inr (show shelfAt ss s < 0 by omega)))
    have HK := Lib.hid hk; clear hk
    cases h : areBk ss k ds
    all_goals
      have H := Lib.hid h; clear h
      have x0 := blk_at X.out (j := 0) rfl; have x1 := blk_at X.out (j := 1) rfl; have x2 := blk_at X.out (j := 2) rfl
      go_enter Try.func19, Try.ntmps19
      go_wp2_with fail
      generalize hwo : w.alloc (Obj.cells #[.slice sA sn sc, .int .i64 k, .slice dA dn dc] 31) = wo at *
      clear hwo
      go_wp2_with (first | (go_at_call 51; refine (specShelfOf _ _ _ k _ _ _ ss s _ hr hn).mono ?_; rw [HK.out]; rintro e w1 ⟨rfl, hb1⟩; have y0 := blk_at (blk_keep hb1 X.out) (j := 0) rfl; have y1 := blk_at (blk_keep hb1 X.out) (j := 1) rfl; have y2 := blk_at (blk_keep hb1 X.out) (j := 2) rfl; have hr1 := hr.below hb1; have hd1 := hd.below hb1) | (go_at_call 15; refine (specAreBooks _ _ _ k _ _ _ ss ds _ hr1 hd1 hn hm SS.out DS.out).mono ?_; rw [H.out]; rintro e w2 ⟨rfl, hb2⟩; have z0 := blk_at (blk_keep hb2 (blk_keep hb1 X.out)) (j := 0) rfl; have hr2 := hr1.below hb2))
      go_ret
      exact ⟨ret_int (by rw [R.out]), below_app b0.out (by first | exact below_app hb1 hb2 hb1.size | exact hb1) b0.out.size⟩
  · have hj : j < sn := by rw [← hl.out]; exact (List.getElem?_eq_some_iff.1 hx).1
    have HK := Lib.hid hk
    have HX := Lib.hid hx
    obtain ⟨s1, s2, s3⟩ := SS.out _ (List.mem_of_getElem? hx)
    simp only at s1 s2 s3
    cases h : areBk ss k ds
    · have R := Lib.hid (onShelf_no (s := s) (.inl h))
      have H := Lib.hid h; clear h hk hx
      have x0 := blk_at X.out (j := 0) rfl; have x1 := blk_at X.out (j := 1) rfl; have x2 := blk_at X.out (j := 2) rfl
      go_enter Try.func19, Try.ntmps19
      go_wp2_with fail
      generalize hwo : w.alloc (Obj.cells #[.slice sA sn sc, .int .i64 k, .slice dA dn dc] 31) = wo at *
      clear hwo
      go_wp2_with (first | (go_at_call 51; refine (specShelfOf _ _ _ k _ _ _ ss s _ hr hn).mono ?_; rw [HK.out]; rintro e w1 ⟨rfl, hb1⟩; have y0 := blk_at (blk_keep hb1 X.out) (j := 0) rfl; have y1 := blk_at (blk_keep hb1 X.out) (j := 1) rfl; have y2 := blk_at (blk_keep hb1 X.out) (j := 2) rfl; have hr1 := hr.below hb1; have hd1 := hd.below hb1) | (go_at_call 15; refine (specAreBooks _ _ _ k _ _ _ ss ds _ hr1 hd1 hn hm SS.out DS.out).mono ?_; rw [H.out]; rintro e w2 ⟨rfl, hb2⟩; have z0 := blk_at (blk_keep hb2 (blk_keep hb1 X.out)) (j := 0) rfl; have hr2 := hr1.below hb2))
      go_ret
      exact ⟨ret_int (by rw [R.out]), below_app b0.out (below_app hb1 hb2 hb1.size) b0.out.size⟩
    · have R := Lib.hid (onShelf_at h hk hx)
      have H := Lib.hid h; clear h hk hx
      simp only at R
      have x0 := blk_at X.out (j := 0) rfl; have x1 := blk_at X.out (j := 1) rfl; have x2 := blk_at X.out (j := 2) rfl
      go_enter Try.func19, Try.ntmps19
      go_wp2_with fail
      generalize hwo : w.alloc (Obj.cells #[.slice sA sn sc, .int .i64 k, .slice dA dn dc] 31) = wo at *
      clear hwo
      have i1 : (0 : Int) ≤ j := by omega
      have i2 : (j : Int) < sn := by omega
      obtain ⟨g, off, rfl, ⟨item', ids', lays'⟩, iA, iN, iC, lA, lN, lC, hx', c0, c1, c2, hi, hlr⟩ := hr.shAt hj
      rw [HX.out] at hx'
      have hx' := Option.some.inj hx'
      injection hx' with e1 e2 e3
      subst e1 e2 e3
      simp only at c0 c1 c2 hi hlr
      have sl := hlr.lay
      have n2 : lN ≤ 1000000000 := by rw [← sl]; omega
      clear sl hi
      go_wp2_with (first | (go_at_call 51; refine (specShelfOf _ _ _ k _ _ _ ss s _ hr hn).mono ?_; rw [HK.out]; rintro e w1 ⟨rfl, hb1⟩; have y0 := blk_at (blk_keep hb1 X.out) (j := 0) rfl; have y1 := blk_at (blk_keep hb1 X.out) (j := 1) rfl; have y2 := blk_at (blk_keep hb1 X.out) (j := 2) rfl; have hr1 := hr.below hb1; have hd1 := hd.below hb1) | (go_at_call 15; refine (specAreBooks _ _ _ k _ _ _ ss ds _ hr1 hd1 hn hm SS.out DS.out).mono ?_; rw [H.out]; rintro e w2 ⟨rfl, hb2⟩; have z0 := blk_at (blk_keep hb2 (blk_keep hb1 X.out)) (j := 0) rfl; have hr2 := hr1.below hb2; have q2 := cell_keep hb2 (cell_keep hb1 c2); have hl2 := (hlr.below hb1).below hb2) | (go_at_call 52; refine (specLeftOf _ _ _ lays _ hl2 n2).mono ?_; rintro e w3 ⟨rfl, hb3⟩))
      go_ret
      exact ⟨ret_int (by rw [R.out]), below_app b0.out (below_app (below_app hb1 hb2 hb1.size) hb3 (Nat.le_trans hb1.size hb2.size)) b0.out.size⟩
end Go.Proofs.Ytlgodbjbllpipaa
namespace Go.Proofs.Ytlgodbjbllpipaa
open Go.RowKit

/-! ### shelves that are right, as one order and a fact of each -/
def shOne (s : Shf) : Prop := isCode s.item = true ∧ areLayers s.lays = true ∧ s.ids.length = s.lays.length ∧ idsOk s.ids = true
theorem shGood_iff {l : List Shf} {k : Nat} {x : Shf} : shGood l k x = true ↔ shOne x ∧ shOrd l k x.item = true := by
  simp only [shGood, shOne, Bool.and_eq_true, decide_eq_true_eq]
  constructor
  · rintro ⟨h1, h2, h3, h4, h5⟩; exact ⟨⟨h1, h3, h4, h5⟩, h2⟩
  · rintro ⟨⟨h1, h3, h4, h5⟩, h2⟩; exact ⟨h1, h2, h3, h4, h5⟩
theorem rising_adj {α : Type} {f : α → ByteArray} : ∀ {l : List α}, (∀ (k : Nat) (x y : α), l[k]? = some x → l[k + 1]? = some y → txtLess (f x) (f y) = true) → Rising f l
  | [], _ => List.Pairwise.nil
  | [x], _ => List.pairwise_singleton _ _
  | x :: y :: l, h => by
    have ih : Rising f (y :: l) := rising_adj (l := y :: l) fun k a b ha hb => h (k + 1) a b (by simpa using ha) (by simpa using hb)
    have h0 := h 0 x y (by simp) (by simp)
    refine List.pairwise_cons.2 ⟨fun z hz => ?_, ih⟩
    rcases List.mem_cons.1 hz with rfl | hz
    · exact h0
    · exact txt_trans h0 ((List.pairwise_cons.1 ih).1 z hz)
theorem rising_at {α : Type} {f : α → ByteArray} {l : List α} (h : Rising f l) {i j : Nat} {x y : α} (hij : i < j) (hx : l[i]? = some x) (hy : l[j]? = some y) : txtLess (f x) (f y) = true := by
  obtain ⟨h1, rfl⟩ := List.getElem?_eq_some_iff.1 hx
  obtain ⟨h2, rfl⟩ := List.getElem?_eq_some_iff.1 hy
  exact List.pairwise_iff_getElem.1 h i j h1 h2 hij
theorem shs_iff {ss : List Shf} : allAt ss (shGood ss) = true ↔ (∀ s ∈ ss, shOne s) ∧ Rising Shf.item ss := by
  constructor
  · intro h
    refine ⟨fun s hs => ?_, rising_adj fun k x y hx hy => ?_⟩
    · obtain ⟨j, hj, rfl⟩ := List.getElem_of_mem hs
      exact (shGood_iff.1 (allAt_true h (List.getElem?_eq_getElem hj))).1
    · have := (shGood_iff.1 (allAt_true h hy)).2
      rwa [shOrd_at (by omega) (by simpa using hx)] at this
  · rintro ⟨h1, h2⟩
    refine allAt_good fun j x hx => shGood_iff.2 ⟨h1 x (List.mem_of_getElem? hx), ?_⟩
    rcases Nat.eq_zero_or_pos j with h0 | h0
    · subst h0; exact shOrd_zero _ _
    · have hj := (List.getElem?_eq_some_iff.1 hx).1
      have hy : ss[j - 1]? = some ss[j - 1] := List.getElem?_eq_getElem (by omega)
      rw [shOrd_at h0 hy]
      exact rising_at h2 (by omega) hy hx
theorem rising_set {ss : List Shf} {k : Nat} {x y : Shf} (h : Rising Shf.item ss) (hx : ss[k]? = some x) (he : y.item = x.item) : Rising Shf.item (ss.set k y) := by
  refine rising_adj fun i a b ha hb => ?_
  rw [List.getElem?_set] at ha hb
  have hk := (List.getElem?_eq_some_iff.1 hx).1
  by_cases h1 : k = i
  · subst h1
    rw [if_pos rfl, if_pos hk] at ha
    rw [if_neg (by omega)] at hb
    injection ha with ha
    rw [← ha, he]
    exact rising_at h (Nat.lt_succ_self _) hx hb
  · rw [if_neg h1] at ha
    by_cases h2 : k = i + 1
    · subst h2
      rw [if_pos rfl, if_pos hk] at hb
      injection hb with hb
      rw [← hb, he]
      exact rising_at h (Nat.lt_succ_self _) ha hx
    · rw [if_neg h2] at hb
      exact rising_at h (Nat.lt_succ_self _) ha hb

/-! ### a new shelf in its place -/
theorem tw_mem {α : Type} {p : α → Bool} : ∀ {l : List α} {x : α}, x ∈ l.takeWhile p → p x = true
  | [], x, h => by simp at h
  | y :: l, x, h => by
    rw [List.takeWhile_cons] at h
    split at h
    · next hp =>
      rcases List.mem_cons.1 h with rfl | h
      · exact hp
      · exact tw_mem h
    · simp at h
theorem less_take {item : ByteArray} : ∀ {ss : List Shf}, ∀ s ∈ ss.take (cntLess ss item), txtLess s.item item = true := by
  intro ss s hs
  have e : ss.take (cntLess ss item) = ss.takeWhile (fun x => txtLess x.item item) := by
    unfold cntLess
    exact (List.prefix_iff_eq_take.1 (List.takeWhile_prefix _)).symm
  rw [e] at hs
  exact tw_mem (p := fun x : Shf => txtLess x.item item) hs
theorem drop_great {item : ByteArray} {ss : List Shf} (h : Rising Shf.item ss) (hn : ∀ s ∈ ss, ¬ s.item = item) : ∀ s ∈ ss.drop (cntLess ss item), txtLess item s.item = true := by
  have e : ss.drop (cntLess ss item) = ss.dropWhile (fun x => txtLess x.item item) := by
    have h1 := List.takeWhile_append_dropWhile (p := fun x : Shf => txtLess x.item item) (l := ss)
    have h2 : (ss.takeWhile (fun x => txtLess x.item item) ++ ss.dropWhile (fun x => txtLess x.item item)).drop (cntLess ss item) = ss.dropWhile (fun x => txtLess x.item item) := by
      unfold cntLess; rw [List.drop_left']; rfl
    rw [h1] at h2; exact h2
  rw [e]
  intro s hs
  have hsub : (ss.dropWhile (fun x => txtLess x.item item)).Sublist ss := List.dropWhile_sublist _
  have hr : Rising Shf.item (ss.dropWhile (fun x => txtLess x.item item)) := h.sublist hsub
  cases hd : ss.dropWhile (fun x => txtLess x.item item) with
  | nil => rw [hd] at hs; cases hs
  | cons y l =>
    have hy : ¬ (txtLess y.item item = true) := by
      have := List.head_dropWhile_not (p := fun x : Shf => txtLess x.item item) (l := ss) (by rw [hd]; simp)
      simp only [hd, List.head_cons] at this
      simpa using this
    have hyn : ¬ y.item = item := hn y (hsub.subset (by rw [hd]; simp))
    have hyi : txtLess item y.item = true := by
      cases hc : txtLess item y.item
      · exact absurd (txt_tri (by simpa using hy) hc) hyn
      · rfl
    rw [hd] at hs hr
    rcases List.mem_cons.1 hs with rfl | hs
    · exact hyi
    · exact txt_trans hyi ((List.pairwise_cons.1 hr).1 s hs)
theorem rising_ins {ss : List Shf} {item : ByteArray} (h : Rising Shf.item ss) (hn : ∀ s ∈ ss, ¬ s.item = item) (x : Shf) (hx : x.item = item) : Rising Shf.item (ss.take (cntLess ss item) ++ x :: ss.drop (cntLess ss item)) := by
  refine List.pairwise_append.2 ⟨h.sublist (List.take_sublist _ _), List.pairwise_cons.2 ⟨fun s hs => by rw [hx]; exact drop_great h hn s hs, h.sublist (List.drop_sublist _ _)⟩, fun a ha b hb => ?_⟩
  have h1 := less_take a ha
  rcases List.mem_cons.1 hb with rfl | hb
  · rw [hx]; exact h1
  · exact txt_trans h1 (drop_great h hn b hb)

/-! ### sums over shelves -/
theorem sumF_all {α : Type} (f : α → Int) (l : List α) : sumF f l l.length = (l.map f).sum := by simp [sumF]
theorem sum_set {α : Type} (f : α → Int) : ∀ {l : List α} {k : Nat} {x y : α}, l[k]? = some x → ((l.set k y).map f).sum = (l.map f).sum - f x + f y
  | [], _, _, _, h => by simp at h
  | z :: l, 0, x, y, h => by simp at h; subst h; simp; omega
  | z :: l, k + 1, x, y, h => by
    have := sum_set f (l := l) (k := k) (x := x) (y := y) (by simpa using h)
    simp only [List.set_cons_succ, List.map_cons, List.sum_cons, this]; omega
theorem sum_ins {α : Type} (f : α → Int) (l : List α) (k : Nat) (x : α) : ((l.take k ++ x :: l.drop k).map f).sum = (l.map f).sum + f x := by
  have h : (l.map f).sum = ((l.take k).map f).sum + ((l.drop k).map f).sum := by
    rw [← List.sum_append, ← List.map_append, List.take_append_drop]
  rw [h]
  simp
  omega
/-- The index of a shelf's item in shelves in order. -/
theorem shelfAt_of {ss : List Shf} {k : Nat} {x : Shf} (h : Rising Shf.item ss) (hx : ss[k]? = some x) : shelfAt ss x.item = k :=
  shelfAt_hit hx rfl fun _ _ hj hy => txt_ne (rising_at h hj hy hx)

/-! ### what each booking does to the shelves -/
structure Right (ss : List Shf) : Prop where
  one : ∀ s ∈ ss, shOne s
  ord : Rising Shf.item ss
theorem right_set {ss : List Shf} {k : Nat} {x y : Shf} (h : Right ss) (hx : ss[k]? = some x) (he : y.item = x.item) (hy : shOne y) : Right (ss.set k y) :=
  ⟨fun s hs => by
    rcases List.mem_or_eq_of_mem_set hs with hm | rfl
    · exact h.one s hm
    · exact hy, rising_set h.ord hx he⟩
theorem right_shelf {ss : List Shf} {item : ByteArray} (hk : 0 ≤ shelfAt ss item) : ∃ (k : Nat) (x : Shf), shelfAt ss item = k ∧ ss[k]? = some x ∧ x.item = item ∧ shGet ss item = x := by
  rcases shelfAt_cases ss item with ⟨h0, _⟩ | ⟨k, x, h0, hx, he, _⟩
  · omega
  · exact ⟨k, x, h0, hx, he, shGet_at h0 hx⟩
theorem right_ins {ss : List Shf} {item : ByteArray} (h : Right ss) : Rising Shf.item (insSs ss item) ∧ (∀ s ∈ insSs ss item, s = ⟨item, [], []⟩ ∨ s ∈ ss) ∧ ∀ f : Shf → Int, f ⟨item, [], []⟩ = 0 → ((insSs ss item).map f).sum = (ss.map f).sum := by
  unfold insSs
  split
  · next h0 =>
    have hn : ∀ s ∈ ss, ¬ s.item = item := by
      rcases shelfAt_cases ss item with ⟨_, hn⟩ | ⟨k, x, h1, _⟩
      · exact hn
      · omega
    refine ⟨rising_ins h.ord hn _ rfl, fun s hs => ?_, fun f hf => by rw [sum_ins, hf]; omega⟩
    rcases List.mem_append.1 hs with hm | hm
    · exact .inr (List.mem_of_mem_take hm)
    · rcases List.mem_cons.1 hm with rfl | hm
      · exact .inl rfl
      · exact .inr (List.mem_of_mem_drop hm)
  · exact ⟨h.ord, fun s hs => .inr hs, fun f _ => rfl⟩
theorem areLayers_nil : areLayers [] = true := by decide
theorem worthOf_nil : worthOf [] = 0 := by decide
theorem leftOf_nil : leftOf [] = 0 := by decide
def leftAt (ss : List Shf) (item : ByteArray) : Int := leftOf (shGet ss item).lays
/-- What a booking makes of the shelves: dq pieces more of the item, worth dw more. -/
structure Eff (ss ss' : List Shf) (item : ByteArray) (dq dw : Int) : Prop where
  right : Right ss'
  len : ss'.length ≤ 12
  worth : (ss'.map shW).sum = (ss.map shW).sum + dw
  left : leftAt ss' item = leftAt ss item + dq
theorem shGet_set {ss : List Shf} {k : Nat} {y : Shf} (h : Right (ss.set k y)) (hk : k < ss.length) : shGet (ss.set k y) y.item = y := by
  have hy : (ss.set k y)[k]? = some y := by rw [List.getElem?_set_self hk]
  exact shGet_at (shelfAt_of h.ord hy) hy
theorem recv_worth {l : List Lay} {q v : Int} (h : areLayers l = true) (h2 : areLayers (recvL l q v) = true) : worthOf (recvL l q v) = worthOf l + v ∧ leftOf (recvL l q v) = leftOf l + q := by
  rw [worthOf_are h, worthOf_are h2, leftOf_are h, leftOf_are h2]
  have e1 : worthS (recvL l q v) = worthS l + (v - lcost ⟨q, v, 0⟩ 0) := by simp [worthS, sm, recvL]
  have e2 : leftS (recvL l q v) = leftS l + (q - 0) := by simp [leftS, sm, recvL]
  have e3 : lcost ⟨q, v, 0⟩ 0 = 0 := by simp [lcost]
  omega
theorem eff_recv {ss : List Shf} {item : ByteArray} {q v id : Int} (h : Right ss) (hc : isCode item = true) (hid : inB id 1 9999 = true) (ho : recvOk ss item q v = true) : Eff ss (recvSs ss item q v id) item q v := by
  obtain ⟨r1, r2⟩ := recvOk_and ho
  obtain ⟨i1, i2⟩ := ins_get ss item
  obtain ⟨n1, n2, n3⟩ := right_ins (item := item) h
  have hnil : shOne ⟨item, [], []⟩ := ⟨hc, areLayers_nil, rfl, rfl⟩
  have hr : Right (insSs ss item) := ⟨fun s hs => (n2 s hs).elim (fun e => e ▸ hnil) (h.one s), n1⟩
  obtain ⟨_, g2, g3, g4⟩ := hr.one _ (List.mem_of_getElem? i1)
  have hk := (List.getElem?_eq_some_iff.1 i1).1
  obtain ⟨w1, w2⟩ := recv_worth g2 r1
  have hn : shOne ⟨item, (shGet ss item).ids ++ [id], recvL (shGet ss item).lays q v⟩ := ⟨hc, r1, by simp [recvL, g3], by
    unfold idsOk at g4 ⊢
    rw [List.all_append, g4]; simp [hid]⟩
  have hR : Right (recvSs ss item q v id) := right_set hr i1 i2.symm hn
  refine ⟨hR, by rw [recvSs, List.length_set]; exact r2, ?_, ?_⟩
  · rw [recvSs, sum_set shW i1, n3 shW (by simp [shW, worthOf_nil])]
    simp only [shW]; omega
  · have := shGet_set hR hk
    unfold leftAt
    rw [show shGet (recvSs ss item q v id) item = _ from this]
    exact w2
theorem eff_issue {ss : List Shf} {item : ByteArray} {q : Int} (h : Right ss) (hl : ss.length ≤ 12) (ho : issOk ss item q = true) : Eff ss (issSs ss item q) item (-q) (-(issCost ss item q)) := by
  simp only [issOk, Bool.and_eq_true, decide_eq_true_eq] at ho
  obtain ⟨k, x, h0, hx, he, hg⟩ := right_shelf ho.1
  have ho2 := ho.2
  rw [hg] at ho2
  obtain ⟨_, l2, l3, _, l5⟩ := law_issue ho2
  obtain ⟨g1, g2, g3, g4⟩ := h.one x (List.mem_of_getElem? hx)
  have hk := (List.getElem?_eq_some_iff.1 hx).1
  have e : issSs ss item q = ss.set k ⟨item, x.ids, issueOut x.lays q⟩ := by rw [issSs, hg, h0]; rfl
  have hn : shOne ⟨item, x.ids, issueOut x.lays q⟩ := ⟨he ▸ g1, l5, by simp only; rw [issueOut_ok ho2, iss_len]; exact g3, g4⟩
  have hR := right_set h hx (y := ⟨item, x.ids, issueOut x.lays q⟩) he.symm hn
  rw [e]
  refine ⟨hR, by rw [List.length_set]; exact hl, ?_, ?_⟩
  · rw [sum_set shW hx, issCost, hg]
    simp only [shW]; omega
  · have := shGet_set hR hk
    unfold leftAt
    rw [show shGet (ss.set k ⟨item, x.ids, issueOut x.lays q⟩) item = _ from this, hg]
    simp only; omega
theorem eff_late {ss : List Shf} {item : ByteArray} {r a : Int} (h : Right ss) (hl : ss.length ≤ 12) (ho : lateCode ss item r a = 0) : Eff ss (lateSs ss item r a) item 0 (a - lateCost ss item r a) := by
  have hs : 0 ≤ shelfAt ss item ∧ lateOk (shGet ss item).lays (lateIx ss item r) a = true := by
    unfold lateCode at ho
    split at ho
    · cases ho
    · next hi =>
      refine ⟨?_, ?_⟩
      · unfold lateIx at hi
        split at hi
        · omega
        · omega
      · split at ho
        · next hh => exact hh
        · cases ho
  obtain ⟨k, x, h0, hx, he, hg⟩ := right_shelf hs.1
  have ho2 := hs.2
  rw [hg] at ho2
  obtain ⟨_, l2, l3⟩ := law_late ho2
  obtain ⟨g1, g2, g3, g4⟩ := h.one x (List.mem_of_getElem? hx)
  have hk := (List.getElem?_eq_some_iff.1 hx).1
  have e : lateSs ss item r a = ss.set k ⟨item, x.ids, lateOut x.lays (lateIx ss item r) a⟩ := by rw [lateSs, hg, h0]; rfl
  have eo : lateOut x.lays (lateIx ss item r) a = lateL x.lays (lateIx ss item r).toNat a := by rw [lateOut, if_pos ho2]
  have l5 : areLayers (lateOut x.lays (lateIx ss item r) a) = true := by rw [eo]; exact (lateOk_iff.1 ho2).2.2.2.2.2
  have hn : shOne ⟨item, x.ids, lateOut x.lays (lateIx ss item r) a⟩ := ⟨he ▸ g1, l5, by simp only; rw [eo, lateL_len]; exact g3, g4⟩
  have hR := right_set h hx (y := ⟨item, x.ids, lateOut x.lays (lateIx ss item r) a⟩) he.symm hn
  rw [e]
  refine ⟨hR, by rw [List.length_set]; exact hl, ?_, ?_⟩
  · rw [sum_set shW hx, lateCost, hg]
    simp only [shW]; omega
  · have := shGet_set hR hk
    unfold leftAt
    rw [show shGet (ss.set k ⟨item, x.ids, lateOut x.lays (lateIx ss item r) a⟩) item = _ from this, hg]
    simp only; omega

/-! ### what each booking does to the documents -/
theorem sumAcc_nz (acc : ByteArray) : ∀ es : List En, sumAcc (nz es) acc = sumAcc es acc := by
  have key : ∀ es : List En, ((nz es).map (entHit acc)).sum = (es.map (entHit acc)).sum := by
    intro es
    induction es with
    | nil => rfl
    | cons x l ih =>
      unfold nz at ih ⊢
      rw [List.filter_cons]
      split
      · simp only [List.map_cons, List.sum_cons, ih]
      · next h =>
        have h0 : x.amt = 0 := by simpa using h
        have e : entHit acc x = 0 := by unfold entHit; split <;> simp [h0]
        simp only [List.map_cons, List.sum_cons, ih, e]; omega
  intro es
  unfold sumAcc
  rw [sumF_all, sumF_all, key]
theorem post_balance {ds : List Doc} {day : Int} {es : List En} (hd : day ≤ 999) (hp : bkPostOk ds day es = true) (acc : ByteArray) : balanceOf (bkPostDs ds day es) acc 999 = balanceOf ds acc 999 + sumAcc es acc := by
  unfold bkPostDs
  cases hn : (nz es).isEmpty
  · unfold bkPostOk at hp
    rw [hn, Bool.false_or] at hp
    simp only [Bool.false_eq_true, if_false]
    rw [balance_with hp, if_pos hd, sumAcc_nz]
  · have e : nz es = [] := by simpa using hn
    have : sumAcc es acc = 0 := by rw [← sumAcc_nz, e]; rfl
    simp only [if_true]; omega
theorem sum2 (acc : ByteArray) (x y : En) : sumAcc [x, y] acc = entHit acc x + entHit acc y := by unfold sumAcc; rw [sumF_all]; simp
theorem sum3 (acc : ByteArray) (x y z : En) : sumAcc [x, y, z] acc = entHit acc x + entHit acc y + entHit acc z := by unfold sumAcc; rw [sumF_all]; simp; omega
theorem sum4 (acc : ByteArray) (x y z u : En) : sumAcc [x, y, z, u] acc = entHit acc x + entHit acc y + entHit acc z + entHit acc u := by unfold sumAcc; rw [sumF_all]; simp; omega
theorem text_at {a b : ByteArray} (h : ¬ a.toList = b.toList) : ¬ a = b := fun e => h (by rw [e])
theorem t_ne : tSupply ≠ tStock ∧ tWork ≠ tStock ∧ tCash ≠ tStock ∧ tSales ≠ tStock ∧ tCost ≠ tStock ∧ tStock ≠ tWork ∧ tSupply ≠ tWork ∧ tCash ≠ tWork ∧ tSales ≠ tWork ∧ tCost ≠ tWork := by
  unfold tSupply tWork tCash tSales tCost tStock; simp
def evQ (e : Ev) : Int := if e.kind = 1 ∨ e.kind = 3 then e.q else if e.kind = 2 ∨ e.kind = 4 then -e.q else 0
theorem isEvent_id {e : Ev} (h : isEvent e = true) : inB e.id 1 9999 = true ∧ 0 ≤ e.day ∧ e.day ≤ 999 ∧ isCode e.item = true := by
  simp only [isEvent, Bool.and_eq_true] at h
  exact ⟨h.1, (inB_true.1 h.2.1).1, (inB_true.1 h.2.1).2, h.2.2.1⟩
/-- The whole effect of a booking. -/
structure Booked (b x : Bk) (e : Ev) : Prop where
  right : areBk x.ss x.k x.ds = true
  eff : ∃ dw dk : Int, Eff b.ss x.ss e.item (evQ e) dw ∧ x.k = b.k + dk ∧ balanceOf x.ds tStock 999 = balanceOf b.ds tStock 999 + dw ∧ balanceOf x.ds tWork 999 = balanceOf b.ds tWork 999 + dk
theorem booked_of {b : Bk} {e : Ev} {ss' : List Shf} {k' : Int} {es : List En} {dw dk : Int} (hk0 : 0 ≤ k') (hk1 : k' ≤ 1000000000) (hd : areDocs b.ds = true) (hday : e.day ≤ 999) (he : Eff b.ss ss' e.item (evQ e) dw) (hk : k' = b.k + dk)
    (h1 : sumAcc es tStock = dw) (h2 : sumAcc es tWork = dk) (h0 : (postB ss' k' b.ds e.day es).1 = 0) : Booked b (postB ss' k' b.ds e.day es).2 e := by
  have hp : bkPostOk b.ds e.day es = true := by
    unfold postB at h0
    split at h0
    · next hp => exact hp
    · cases h0
  have hx : (postB ss' k' b.ds e.day es).2 = ⟨ss', k', bkPostDs b.ds e.day es⟩ := by unfold postB; rw [if_pos hp]
  have ha : areDocs (bkPostDs b.ds e.day es) = true := by
    unfold bkPostOk at hp
    unfold bkPostDs
    cases hn : (nz es).isEmpty
    · rw [hn, Bool.false_or] at hp; simpa using hp
    · simpa using hd
  rw [hx]
  refine ⟨?_, dw, dk, he, hk, by rw [← h1]; exact post_balance hday hp _, by rw [← h2]; exact post_balance hday hp _⟩
  simp only [areBk, Bool.and_eq_true, decide_eq_true_eq]
  exact ⟨shs_iff.2 ⟨he.right.one, he.right.ord⟩, he.len, inB_true.2 ⟨hk0, hk1⟩, ha⟩
theorem bookB_law {b : Bk} {e : Ev} (ha : areBk b.ss b.k b.ds = true) (he : isEvent e = true) (h0 : (bookB b e).1 = 0) : Booked b (bookB b e).2 e := by
  obtain ⟨n1, n2, n3, n4, n5, n6, n7, n8, n9, n10⟩ := t_ne
  obtain ⟨w1, w2, w3, w4⟩ := isEvent_id he
  have ha' := ha
  simp only [areBk, Bool.and_eq_true, decide_eq_true_eq] at ha'
  obtain ⟨a1, a2, a3, a4⟩ := ha'
  obtain ⟨a5, a6⟩ := inB_true.1 a3
  obtain ⟨r1, r2⟩ := shs_iff.1 a1
  have hR : Right b.ss := ⟨r1, r2⟩
  have hkd : e.kind = 1 ∨ e.kind = 3 ∨ e.kind = 2 ∨ e.kind = 4 ∨ e.kind = 5 := by
    simp only [isEvent, Bool.and_eq_true] at he
    have h := he.2.2.2
    split at h
    · next hk => omega
    · split at h
      · omega
      · split at h
        · omega
        · cases h
  have hamt : e.kind = 3 → 1 ≤ e.a := by
    intro hk
    simp only [isEvent, Bool.and_eq_true] at he
    have h := he.2.2.2
    rw [if_pos (by omega)] at h
    simp only [Bool.and_eq_true] at h
    exact (inB_true.1 h.2.1).1
  rcases hkd with hk | hk | hk | hk | hk
  · have eB : bookB b e = bookBuy b e := by simp [bookB, hk]
    rw [eB] at h0 ⊢
    unfold bookBuy at h0 ⊢
    split at h0
    · next hr =>
      rw [if_pos hr]
      refine booked_of (dw := e.a) (dk := 0) a5 a6 a4 w3 ?_ (by omega) ?_ ?_ h0
      · have := eff_recv hR w4 w1 hr
        rwa [show evQ e = e.q by simp [evQ, hk]]
      · rw [buyE, sum2]; simp [entHit, n1]
      · rw [buyE, sum2]; simp [entHit, n6, n7]
    · cases h0
  · have eB : bookB b e = bookMake b e := by simp [bookB, hk]
    rw [eB] at h0 ⊢
    unfold bookMake at h0 ⊢
    split at h0
    · cases h0
    · next hm =>
      rw [if_neg hm]
      split at h0
      · next hr =>
        rw [if_pos hr]
        have := hamt hk
        refine booked_of (dw := e.a) (dk := -e.a) (by omega) (by omega) a4 w3 ?_ (by omega) ?_ ?_ h0
        · have := eff_recv hR w4 w1 hr
          rwa [show evQ e = e.q by simp [evQ, hk]]
        · rw [makeE, sum2]; simp [entHit, n2]
        · rw [makeE, sum2]; simp [entHit, n6]
      · cases h0
  · have eB : bookB b e = bookIss b e := by simp [bookB, hk]
    rw [eB] at h0 ⊢
    unfold bookIss at h0 ⊢
    split at h0
    · next hr =>
      rw [if_pos hr]
      split at h0
      · cases h0
      · next hm =>
        rw [if_neg hm]
        have hc := (issueCost_bd24 (shGet b.ss e.item).lays e.q).1
        have hc' : 0 ≤ issCost b.ss e.item e.q := hc
        refine booked_of (dw := -(issCost b.ss e.item e.q)) (dk := issCost b.ss e.item e.q) (by omega) (by omega) a4 w3 ?_ (by omega) ?_ ?_ h0
        · have := eff_issue hR a2 hr
          rwa [show evQ e = -e.q by simp [evQ, hk]]
        · rw [issE, sum2]; simp [entHit, n2]
        · rw [issE, sum2]; simp [entHit, n6]
    · cases h0
  · have eB : bookB b e = bookSell b e := by simp [bookB, hk]
    rw [eB] at h0 ⊢
    unfold bookSell at h0 ⊢
    split at h0
    · next hr =>
      rw [if_pos hr]
      refine booked_of (dw := -(issCost b.ss e.item e.q)) (dk := 0) a5 a6 a4 w3 ?_ (by omega) ?_ ?_ h0
      · have := eff_issue hR a2 hr
        rwa [show evQ e = -e.q by simp [evQ, hk]]
      · rw [sellE, sum4]; simp [entHit, n3, n4, n5]
      · rw [sellE, sum4]; simp [entHit, n6, n8, n9, n10]
    · cases h0
  · have eB : bookB b e = bookLate b e := by simp [bookB, hk]
    rw [eB] at h0 ⊢
    unfold bookLate at h0 ⊢
    split at h0
    · next hr =>
      rw [if_pos hr]
      refine booked_of (dw := e.a - lateCost b.ss e.item e.r e.a) (dk := 0) a5 a6 a4 w3 ?_ (by omega) ?_ ?_ h0
      · have := eff_late hR a2 hr
        rwa [show evQ e = 0 by simp [evQ, hk]]
      · rw [lateE, sum3]; simp [entHit, n1, n5]
      · rw [lateE, sum3]; simp [entHit, n6, n7, n10]
    · next hr => exact absurd h0 hr

/-! ### as the law asks -/
theorem onShelf_left {ss : List Shf} {k : Int} {ds : List Doc} (h : areBk ss k ds = true) (item : ByteArray) : onShelf ss k ds item = leftAt ss item := by
  rcases shelfAt_cases ss item with ⟨h0, _⟩ | ⟨j, x, h0, hx, he, _⟩
  · rw [onShelf_no (.inr (by omega)), leftAt, shGet, if_pos (by omega)]; exact leftOf_nil.symm
  · rw [onShelf_at h h0 hx, leftAt, shGet_at h0 hx]
theorem stock_sum {ss : List Shf} {k : Int} {ds : List Doc} (h : areBk ss k ds = true) : stockW ss k ds = (ss.map shW).sum := by
  rw [stockW, if_pos h, sumF_all]
theorem bookEv_no {b : Bk} {e : Ev} (h : ¬ (bookEv b e).1 = 0) : (bookEv b e).2 = b := by
  unfold bookEv at h ⊢
  split at h
  · next h1 =>
    rw [if_pos h1]
    split at h
    · next h2 => exact absurd h2 h
    · next h2 => rw [if_neg h2]
  · next h1 => rw [if_neg h1]
theorem bookEv_yes {b : Bk} {e : Ev} (h : (bookEv b e).1 = 0) : areBk b.ss b.k b.ds = true ∧ isEvent e = true ∧ areBk (bookEv b e).2.ss (bookEv b e).2.k (bookEv b e).2.ds = true ∧
    onShelf (bookEv b e).2.ss (bookEv b e).2.k (bookEv b e).2.ds e.item = onShelf b.ss b.k b.ds e.item + evQ e ∧
    (agree b.ss b.k b.ds = true → agree (bookEv b e).2.ss (bookEv b e).2.k (bookEv b e).2.ds = true ∧ stockW (bookEv b e).2.ss (bookEv b e).2.k (bookEv b e).2.ds = balanceOf (bookEv b e).2.ds tStock 999) := by
  unfold bookEv at h ⊢
  split at h
  · next h1 =>
    rw [if_pos h1]
    rw [Bool.and_eq_true] at h1
    split at h
    · next h2 =>
      rw [if_pos h2]
      obtain ⟨r, dw, dk, he, hk, s1, s2⟩ := bookB_law h1.1 h1.2 h2
      refine ⟨h1.1, h1.2, r, ?_, fun hg => ?_⟩
      · rw [onShelf_left r, onShelf_left h1.1, he.left]
      · simp only [agree, Bool.and_eq_true, beq_iff_eq] at hg
        obtain ⟨_, g1, g2⟩ := hg
        have q1 : balanceOf b.ds tStock 999 = (b.ss.map shW).sum := by rw [← stock_sum h1.1]; exact g1
        have q2 : balanceOf b.ds tWork 999 = b.k := g2
        have q3 : balanceOf (bookB b e).2.ds tStock 999 = stockW (bookB b e).2.ss (bookB b e).2.k (bookB b e).2.ds := by rw [stock_sum r, he.worth]; omega
        refine ⟨?_, q3.symm⟩
        simp only [agree, Bool.and_eq_true, beq_iff_eq]
        exact ⟨r, q3, by show balanceOf (bookB b e).2.ds tWork 999 = _; omega⟩
    · next h2 => exact absurd h h2
  · cases h
end Go.Proofs.Ytlgodbjbllpipaa
namespace Go.Proofs.Ytlgodbjbllpipaa
open Go.ChangeShapes Go.WideShapes Go.ChangeAt Go.RowKit

/-- One shelf's layers turned in their place. -/
theorem ShelvesO.lays {w : World} {lo hi n c k : Nat} {A : Option Addr} {ss : List Shf} {rest : List Row} (h : ShelvesO w lo hi (.slice A n c) n ss rest) (hk : k < n) :
    ∃ g, A = some ⟨g, 0, none⟩ ∧ ∃ (s : Shf) (lA : Option Addr) (lC : Nat), ss[k]? = some s ∧ w.cell? ⟨g, k * 3 + 2, none⟩ = some (.slice lA s.lays.length lC) ∧
      w.ownsRow lo 61 3 (.slice lA s.lays.length lC) s.lays.length (layCells s.lays) ∧
      ∀ (w1 : World) (l' : List Lay), w.grownBy w1 (Value.slice lA s.lays.length lC).ownBlock → w1.ownsRow lo 61 3 (.slice lA s.lays.length lC) s.lays.length (layCells l') →
        ShelvesO w1 lo hi (.slice A n c) n (ss.set k ⟨s.item, s.ids, l'⟩) rest := by
  have hl := h.len
  obtain ⟨vs, ⟨h1, h2⟩, h3⟩ := h
  have hd : ss[k]? = some ss[k] := List.getElem?_eq_getElem (by omega)
  have hx : vs[k]? = some vs[k] := List.getElem?_eq_getElem (by omega)
  have o0 : w.ownsRow lo 59 3 (.slice A n c) n (vs.flatMap svCell) := h3.get (r := ⟨59, 3, .slice A n c, n, vs.flatMap svCell⟩) (by simp [shRows])
  obtain ⟨g, rfl, hg1, hg2, hc, hf⟩ := own_addr o0 (by omega)
  have e1 := h2 k _ _ hx hd
  have rl : (shRows (.slice (some ⟨g, 0, none⟩) n c) n vs ss ++ rest)[n + k + 1]? = some (layRow vs[k] ss[k]) := by
    rw [List.getElem?_append_left (by simp [shRows]; omega)]
    simp only [shRows, List.getElem?_cons_succ]
    rw [List.getElem?_append_right (by simp; omega)]
    have : n + k - (List.zipWith idRow vs ss).length = k := by simp; omega
    rw [this]
    exact zipWith_at hx hd
  have ol := h3.get (List.mem_of_getElem? rl)
  have ll : ss[k].lays.length = vs[k].lN := RS.lay (RS.of_own (A := vs[k].lA) (c := vs[k].lC) ol)
  refine ⟨g, rfl, ss[k], vs[k].lA, vs[k].lC, hd, ?_, by rw [ll]; exact ol, fun w1 l' hg ho => ?_⟩
  · rw [ll, hc (k * 3 + 2) (by omega)]
    exact flat_get svCell svCell_len vs k _ hx 2 (by omega)
  · rw [ll] at hg ho
    have t1 := h3.turnIn rl hg ho rfl
    refine ⟨vs.set k vs[k], ⟨by simp [h1], fun i x s hxi hsi => ?_⟩, ?_⟩
    · by_cases hik : i = k
      · subst hik
        rw [List.getElem?_set] at hxi hsi
        simp at hxi hsi
        rw [← hxi.2, ← hsi.2]
        exact e1
      · rw [List.getElem?_set_ne (Ne.symm hik)] at hxi hsi
        exact h2 i x s hxi hsi
    · refine Eq.mp (congrArg (Owns _ lo _) ?_) t1
      have z1 := zipWith_set idRow vs ss k vs[k] ⟨ss[k].item, ss[k].ids, l'⟩
      have z2 := zipWith_set layRow vs ss k vs[k] ⟨ss[k].item, ss[k].ids, l'⟩
      have z3 : (List.zipWith idRow vs ss).set k (idRow vs[k] ⟨ss[k].item, ss[k].ids, l'⟩) = List.zipWith idRow vs ss := (set_self (zipWith_at (f := idRow) hx hd) : (List.zipWith idRow vs ss).set k (idRow vs[k] ss[k]) = _)
      simp only [shRows]
      rw [z1, z2, z3, set_self hx]
      simp only [List.cons_append, List.set_cons_succ]
      rw [List.set_append_left _ _ (by simp; omega), List.set_append_right _ _ (by simp; omega)]
      have : n + k - (List.zipWith idRow vs ss).length = k := by simp; omega
      rw [this]
      rfl

theorem own_setne {w : World} {base size n r j : Nat} {e : TypeId} {v : Value} {xs : List Value} (h : w.ownsRow base e size v n xs) (hv : v.ownBlock ≠ some r) (u : Value) : (w.setCell ⟨r, j, none⟩ u).ownsRow base e size v n xs :=
  own_grown h (grown_set w ⟨r, j, none⟩ u) (.inr fun he => hv (by rw [he]))
/-- Books that are drawn are small. -/
def bkSm (ss : List Shf) (ds : List Doc) : Prop := ss.length ≤ 1048600 ∧ ds.length ≤ 1048600 ∧ shsSmall ss ∧ docsSmall ds
theorem areBk_few {ss : List Shf} {k : Int} {ds : List Doc} (h : areBk ss k ds = true) : ss.length ≤ 12 ∧ (∀ s ∈ ss, s.item.size ≤ 8 ∧ s.ids.length ≤ 24 ∧ s.lays.length ≤ 24) ∧ ds.length ≤ 120 ∧ docsSmall ds := by
  have hs := areBk_shs h
  simp only [areBk, Bool.and_eq_true, decide_eq_true_eq] at h
  obtain ⟨h1, h2, h3, h4⟩ := h
  refine ⟨h2, fun s hm => ?_, (areDocs_true h4).1, fun d hd => ⟨by have := (areEntries_true (areDocs_ents h4 d hd)).2.2.2; omega, fun x hx => by
    have := (isCode_len (enGood_amt ((areEntries_true (areDocs_ents h4 d hd)).1 x hx)).2.2.2).2; omega⟩⟩
  obtain ⟨_, a2, a3⟩ := shsOk_at hs hm
  have := isCode_len ((shs_iff.1 h1).1 s hm).1
  omega
theorem areBk_sm {ss : List Shf} {k : Int} {ds : List Doc} (h : areBk ss k ds = true) : bkSm ss ds := by
  obtain ⟨a, b, c, d⟩ := areBk_few h
  exact ⟨by omega, by omega, fun s hs => by have := b s hs; omega, d⟩
theorem areBk_nil : areBk [] 0 [] = true := by decide
theorem sm_set {ss : List Shf} {ds : List Doc} {k : Nat} {x : Shf} (h : bkSm ss ds) (hx : x.item.size ≤ 1048600 ∧ x.ids.length ≤ 1048600 ∧ x.lays.length ≤ 1048600) : bkSm (ss.set k x) ds :=
  ⟨by rw [List.length_set]; exact h.1, h.2.1, fun s hs => by
    rcases List.mem_or_eq_of_mem_set hs with hm | rfl
    · exact h.2.2.1 s hm
    · exact hx, h.2.2.2⟩
theorem bookEv_are {b : Bk} {e : Ev} (h : areBk b.ss b.k b.ds = true) : areBk (bookEv b e).2.ss (bookEv b e).2.k (bookEv b e).2.ds = true := by
  by_cases h0 : (bookEv b e).1 = 0
  · exact (bookEv_yes h0).2.2.1
  · rw [bookEv_no h0]; exact h

/-- Books in the making: the result's cell, the box, the cursor. -/
structure BkW (w : World) (g x : Nat) (w' : World) (A : Option Addr) (n c : Nat) (k : Int) (D : Option Addr) (m d : Nat) (ss : List Shf) (ds : List Doc) : Prop where
  gx : g < w.heap.size
  wx : w.heap.size < x
  sz : x < w'.heap.size
  res : w'.heap[w.heap.size]? = some (.cells #[.slice none 0 0, .int .i64 0, .slice none 0 0] 31 (0, 0))
  box : w'.heap[x]? = some (.cells #[.slice A n c, .int .i64 k, .slice D m d] 31 (0, 0))
  gr : w.grownBy w' (some g)
  cur : Cur w' g
  bk : BooksO w' w.heap.size w'.heap.size (.slice A n c) n ss (.slice D m d) m ds
namespace BkW
variable {w w1 w2 : World} {g x : Nat} {A : Option Addr} {n c : Nat} {k : Int} {D : Option Addr} {m d : Nat} {ss : List Shf} {ds : List Doc}
theorem call (h : BkW w g x w1 A n c k D m d ss ds) (hg : w1.grownBy w2 (some g)) (hc : Cur w2 g) : BkW w g x w2 A n c k D m d ss ds :=
  ⟨h.gx, h.wx, Nat.lt_of_lt_of_le h.sz hg.size, blk_grown hg h.res (by have := h.gx; omega), blk_grown hg h.box (by have := h.gx; have := h.wx; omega), h.gr.trans hg, hc,
    (h.bk.within (Within.of_grown (lo := g) (hi := g + 1) hg (fun k hk => by injection hk with hk; omega)) (.inr (by have := h.gx; omega))).top⟩
theorem below (h : BkW w g x w1 A n c k D m d ss ds) (hb : Below w1.heap.size w1 w2) : BkW w g x w2 A n c k D m d ss ds :=
  ⟨h.gx, h.wx, Nat.lt_of_lt_of_le h.sz hb.size, blk_keep hb h.res, blk_keep hb h.box, grown_below h.gr hb, h.cur.below hb, (h.bk.below hb).top⟩
theorem work (h : BkW w g x w1 A n c k D m d ss ds) (v : Int) : BkW w g x (w1.setCell ⟨x, 1, none⟩ (.int .i64 v)) A n c v D m d ss ds :=
  ⟨h.gx, h.wx, by simpa [World.setCell] using h.sz, (Below.heap_setCell w1 ⟨x, 1, none⟩ _ w.heap.size (by have := h.wx; simp only; omega)).trans h.res,
    heap_setCell_same w1 x 1 _ _ _ h.box, grown_setNew' h.gr (by have := h.wx; simp only; omega) _, cur_setNew' h.cur (by have := h.gx; have := h.wx; simp only; omega) _, (h.bk.setq h.box rfl).top⟩
/-- New books laid into the box. -/
theorem event (h : BkW w g x w1 A n c k D m d ss ds) (hb : Below w1.heap.size w1 w2) {A2 : Option Addr} {n2 c2 : Nat} {k2 : Int} {D2 : Option Addr} {m2 d2 : Nat} {ss2 : List Shf} {ds2 : List Doc}
    (ho : BooksO w2 w1.heap.size w2.heap.size (.slice A2 n2 c2) n2 ss2 (.slice D2 m2 d2) m2 ds2) :
    BkW w g x (((w2.setCell ⟨x, 0, none⟩ (.slice A2 n2 c2)).setCell ⟨x, 1, none⟩ (.int .i64 k2)).setCell ⟨x, 2, none⟩ (.slice D2 m2 d2)) A2 n2 c2 k2 D2 m2 d2 ss2 ds2 := by
  have h2 := h.below hb
  have hx : w.heap.size ≤ x := by have := h.wx; omega
  have gx : g < x := by have := h.gx; omega
  refine ⟨h.gx, h.wx, by simpa [World.setCell] using h2.sz, (blk_set3_ne (by have := h.wx; omega) _ _ _).trans h2.res, blk_set3 h2.box _ _ _,
    grown_setNew' (grown_setNew' (grown_setNew' h2.gr hx _) hx _) hx _, cur_setNew' (cur_setNew' (cur_setNew' h2.cur gx _) gx _) gx _, ?_⟩
  have := (BooksO.out3 ho h2.box (.slice A2 n2 c2) (.int .i64 k2) (.slice D2 m2 d2)).top
  exact this.mono (by have := h.gr.size; omega) (Nat.le_refl _)
theorem fin (h : BkW w g x w1 A n c k D m d ss ds) (v0 v1 v2 : Value) :
    w.grownBy (((w1.setCell ⟨w.heap.size, 0, none⟩ v0).setCell ⟨w.heap.size, 1, none⟩ v1).setCell ⟨w.heap.size, 2, none⟩ v2) (some g) ∧
    Cur (((w1.setCell ⟨w.heap.size, 0, none⟩ v0).setCell ⟨w.heap.size, 1, none⟩ v1).setCell ⟨w.heap.size, 2, none⟩ v2) g ∧
    BooksO (((w1.setCell ⟨w.heap.size, 0, none⟩ v0).setCell ⟨w.heap.size, 1, none⟩ v1).setCell ⟨w.heap.size, 2, none⟩ v2) w.heap.size (((w1.setCell ⟨w.heap.size, 0, none⟩ v0).setCell ⟨w.heap.size, 1, none⟩ v1).setCell ⟨w.heap.size, 2, none⟩ v2).heap.size (.slice A n c) n ss (.slice D m d) m ds :=
  ⟨grown_setNew' (grown_setNew' (grown_setNew' h.gr (Nat.le_refl _) _) (Nat.le_refl _) _) (Nat.le_refl _) _, cur_setNew' (cur_setNew' (cur_setNew' h.cur h.gx _) h.gx _) h.gx _, (BooksO.out3 h.bk h.res _ _ _).top⟩
end BkW
def DrawnBks (g : Nat) (w : World) (e : Ending) (w' : World) : Prop :=
  ∃ (A : Option Addr) (n c : Nat) (k : Int) (D : Option Addr) (m d : Nat) (ss : List Shf) (ds : List Doc), e = .returned (.agg #[.slice A n c, .int .i64 k, .slice D m d]) ∧
    BooksO w' w.heap.size w'.heap.size (.slice A n c) n ss (.slice D m d) m ds ∧ bkSm ss ds ∧ w.grownBy w' (some g) ∧ Cur w' g
set_option maxRecDepth 100000 in
set_option maxHeartbeats 8000000 in
theorem l36Books_any (g : Nat) (w : World) (hc : Cur w g) :
    Calls Try.prog 66 #[.pointer (some ⟨g, 0, none⟩)] w (DrawnBks g w) := by
  have hlt := hc.lt
  obtain ⟨j0, hi', hz0', hz1', hz2'⟩ := info_parts intInfo
  have HR := Lib.hid (blk_alloc (blk_new1 w (Obj.cells #[.slice none 0 0, .int .i64 0, .slice none 0 0] 31)) (Obj.cells #[.slice none 0 0, .int .i64 0, .slice none 0 0] 31))
  have HX := Lib.hid (blk_new2 w (Obj.cells #[.slice none 0 0, .int .i64 0, .slice none 0 0] 31) (Obj.cells #[.slice none 0 0, .int .i64 0, .slice none 0 0] 31))
  have b0 := below_then (below_box w (Obj.cells #[.slice none 0 0, .int .i64 0, .slice none 0 0] 31)) (below_box _ (Obj.cells #[.slice none 0 0, .int .i64 0, .slice none 0 0] 31))
  have B0 : BooksO ((w.alloc (Obj.cells #[.slice none 0 0, .int .i64 0, .slice none 0 0] 31)).alloc (Obj.cells #[.slice none 0 0, .int .i64 0, .slice none 0 0] 31)) w.heap.size ((w.alloc (Obj.cells #[.slice none 0 0, .int .i64 0, .slice none 0 0] 31)).alloc (Obj.cells #[.slice none 0 0, .int .i64 0, .slice none 0 0] 31)).heap.size (.slice none 0 0) 0 [] (.slice none 0 0) 0 [] :=
    BooksO.of (ShelvesO.empty (own_none _ w.heap.size _ _)) (Below.refl _ _) (DocsO.empty (own_none _ _ _ _)) (Nat.le_refl _) (by simp; omega)
  have H0 := Lib.hid (show BkW w g (w.heap.size + 1) _ none 0 0 0 none 0 0 [] [] from ⟨hlt, by omega, by simp, HR.out, HX.out, (World.grownBy_alloc w (Obj.cells #[.slice none 0 0, .int .i64 0, .slice none 0 0] 31) (some g)).trans (World.grownBy_alloc _ (Obj.cells #[.slice none 0 0, .int .i64 0, .slice none 0 0] 31) (some g)), hc.below b0, B0⟩)
  clear B0 b0 HR HX
  go_enter Try.func66, Try.ntmps66
  go_wp2_with fail
  refine (l36Events_any g _ H0.out.cur).mono ?_; rintro e w1 ⟨eA, ne, ec, es, rfl, oe, hne, hes, hg1, hc1⟩
  have H1 := Lib.hid (H0.out.call hg1 hc1)
  have OE := Lib.hid (own_base oe (show w.heap.size + 2 ≤ _ by simp))
  have HE := Lib.hid hes
  clear oe hes hg1 hc1 H0
  go_wp2_with fail
  go_loopw [5] (fun i wr => ∃ (j : Nat) (A : Option Addr) (n c : Nat) (k : Int) (D : Option Addr) (m d : Nat) (ss : List Shf) (ds : List Doc), j ≤ ne ∧ i = .int .i64 j ∧ Hid (BkW w g (w.heap.size + 1) wr A n c k D m d ss ds) ∧ Hid (areBk ss k ds = true) ∧
      wr.ownsRow (w.heap.size + 2) 44 7 (.slice eA ne ec) ne (es.flatMap evCell)) (fun i _ => ne - (intOf i).toNat)
  case atStart => exact ⟨0, none, 0, 0, 0, none, 0, 0, [], [], Nat.zero_le _, rfl, H1, Lib.hid areBk_nil, OE.out⟩
  case round =>
    obtain ⟨j, A, n, c, k, D, m, d, ss, ds, hj, rfl, H, HA, oe⟩ := hrel
    clear H1 OE
    by_cases hlt2 : j < ne
    · obtain ⟨gg, rfl, hgl, hgs, hcs, hfs⟩ := own_addr oe (by omega)
      obtain ⟨ev, hev⟩ : ∃ ev, es[j]? = some ev := ⟨_, List.getElem?_eq_getElem (by have := (RS.of_own oe).flatLen evCell_len (by omega); omega)⟩
      have cc : ∀ q, q < 7 → wr.cell? ⟨gg, j * 7 + q, none⟩ = (evCell ev)[q]? := fun q hq => by
        rw [hcs (j * 7 + q) (by omega)]
        exact flat_get evCell evCell_len es j ev hev q hq
      have e0 := cc 0 (by omega); have e1 := cc 1 (by omega); have e2 := cc 2 (by omega); have e3 := cc 3 (by omega); have e4 := cc 4 (by omega); have e5 := cc 5 (by omega); have e6 := cc 6 (by omega)
      have hsh := HE.out ev (List.mem_of_getElem? hev)
      obtain ⟨id, day, kind, item, q, a, r⟩ := ev
      simp only [evCell, List.getElem?_cons_zero, List.getElem?_cons_succ, Nat.add_zero] at e0 e1 e2 e3 e4 e5 e6
      have h12 := hsh.2
      simp only at h12
      clear cc hcs hfs hev hsh
      have x0 := blk_at H.out.box (j := 0) rfl; have x1 := blk_at H.out.box (j := 1) rfl; have x2 := blk_at H.out.box (j := 2) rfl; have xf := blk_free H.out.box
      have SM := Lib.hid (areBk_sm HA.out)
      have nl := H.out.bk.shelves.len; have ml := H.out.bk.docs.len
      have hn1 : n ≤ 1048600 := by rw [← nl]; exact SM.out.1
      have hm1 : m ≤ 1048600 := by rw [← ml]; exact SM.out.2.1
      have i1 : (0 : Int) ≤ j := by omega
      have i2 : (j : Int) < ne := by omega
      clear nl ml
      go_upto_region 6 with fail
      have SE : ∀ v : World, wr.heap.size ≤ v.heap.size → (∀ b, b = gg → v.heap[b]? = wr.heap[b]?) → v.cell? ⟨gg, j * 7, none⟩ = some (.int .i64 id) ∧ v.cell? ⟨gg, j * 7 + 1, none⟩ = some (.int .i64 day) ∧ v.cell? ⟨gg, j * 7 + 2, none⟩ = some (.int .i64 kind) ∧ v.cell? ⟨gg, j * 7 + 3, none⟩ = some (.string item) ∧ v.cell? ⟨gg, j * 7 + 4, none⟩ = some (.int .i64 q) ∧ v.cell? ⟨gg, j * 7 + 5, none⟩ = some (.int .i64 a) ∧ v.cell? ⟨gg, j * 7 + 6, none⟩ = some (.int .i64 r) := fun v _ hv => by
        have hc : ∀ p, v.cell? ⟨gg, p, none⟩ = wr.cell? ⟨gg, p, none⟩ := fun p => by unfold World.cell?; simp only [hv gg rfl]
        simp only [hc]
        exact ⟨e0, e1, e2, e3, e4, e5, e6⟩
      have HSE := Lib.hid SE
      clear SE
      refine wp_region_held_drew (S := fun v => v.cell? ⟨gg, j * 7, none⟩ = some (.int .i64 id) ∧ v.cell? ⟨gg, j * 7 + 1, none⟩ = some (.int .i64 day) ∧ v.cell? ⟨gg, j * 7 + 2, none⟩ = some (.int .i64 kind) ∧ v.cell? ⟨gg, j * 7 + 3, none⟩ = some (.string item) ∧ v.cell? ⟨gg, j * 7 + 4, none⟩ = some (.int .i64 q) ∧ v.cell? ⟨gg, j * 7 + 5, none⟩ = some (.int .i64 a) ∧ v.cell? ⟨gg, j * 7 + 6, none⟩ = some (.int .i64 r)) (by kernel_rfl) (HSE.out wr.drew (Nat.le_refl _) fun b _ => rfl) (fun hHeld => ?_)
      refine wpAnyH_take (i := 1) (oi := ?_) (v := ?_) (by simp only [List.getElem?_toArray, List.getElem?_cons_succ, List.getElem?_cons_zero]; rfl) (by kernel_rfl) (by kernel_rfl) (by kernel_rfl) ?_ (Or.inl ⟨by rfl, ?_⟩) hHeld ?_
      rotate_left 1
      focus exact fun _ _ _ h => h
      focus (intro w hSw; (try dsimp only at hSw); go_simp; try with_reducible rfl)
      (try simp only [Act.put, List.setIfInBounds_toArray, List.set_cons_zero, List.set_cons_succ])
      refine wpAnyH_take (i := 2) (oi := ?_) (v := ?_) (by simp only [List.getElem?_toArray, List.getElem?_cons_succ, List.getElem?_cons_zero]; rfl) (by kernel_rfl) (by kernel_rfl) (by kernel_rfl) ?_ (Or.inl ⟨by rfl, ?_⟩) hHeld ?_
      rotate_left 1
      focus exact fun _ _ _ h => h
      focus (intro w hSw; (try dsimp only at hSw); go_simp; try with_reducible rfl)
      (try simp only [Act.put, List.setIfInBounds_toArray, List.set_cons_zero, List.set_cons_succ])
      refine wpAnyH_take (i := 3) (oi := ?_) (v := ?_) (by simp only [List.getElem?_toArray, List.getElem?_cons_succ, List.getElem?_cons_zero]; rfl) (by kernel_rfl) (by kernel_rfl) (by kernel_rfl) ?_ (Or.inl ⟨by rfl, ?_⟩) hHeld ?_
      rotate_left 1
      focus exact fun _ _ _ h => h
      focus (intro w hSw; (try dsimp only at hSw); go_simp; try with_reducible rfl)
      (try simp only [Act.put, List.setIfInBounds_toArray, List.set_cons_zero, List.set_cons_succ])
      refine wpAnyH_take (i := 4) (oi := ?_) (v := ?_) (by simp only [List.getElem?_toArray, List.getElem?_cons_succ, List.getElem?_cons_zero]; rfl) (by kernel_rfl) (by kernel_rfl) (by kernel_rfl) ?_ (Or.inl ⟨by rfl, ?_⟩) hHeld ?_
      rotate_left 1
      focus exact fun _ _ _ h => h
      focus (intro w hSw; (try dsimp only at hSw); go_simp; try with_reducible rfl)
      (try simp only [Act.put, List.setIfInBounds_toArray, List.set_cons_zero, List.set_cons_succ])
      refine wpAnyH_ready (rs := [0]) (by kernel_rfl) (by simp) ?_
      refine AllReadyH.cons (o := ?_) (by simp only [List.getElem?_toArray, List.getElem?_cons_zero]; rfl) (fun K hK => ?_) AllReadyH.nil
      go_simp
      refine hK.out _ _ ((HSE.out wr.drew (Nat.le_refl _) fun b _ => rfl)) (fun hHeld => ?_)
      clear hK K
      (try simp only [Act.put, List.setIfInBounds_toArray, List.set_cons_zero, List.set_cons_succ])
      refine wpAnyH_ready (rs := [5]) (by kernel_rfl) (by simp) ?_
      refine AllReadyH.cons (o := ?_) (by simp only [List.getElem?_toArray, List.getElem?_cons_succ, List.getElem?_cons_zero]; rfl) (fun K hK => ?_) AllReadyH.nil
      go_simp
      obtain ⟨cd, hcd⟩ : ∃ cd, cd = (bookEv ⟨ss, k, ds⟩ ⟨id, day, kind, item, q, a, r⟩).1 := ⟨_, rfl⟩
      obtain ⟨b2, hb2⟩ : ∃ b2, b2 = (bookEv ⟨ss, k, ds⟩ ⟨id, day, kind, item, q, a, r⟩).2 := ⟨_, rfl⟩
      have HN := bookEv_are (b := ⟨ss, k, ds⟩) (e := ⟨id, day, kind, item, q, a, r⟩) HA.out
      have CB := specBookEv A n c k D m d ss ds ⟨id, day, kind, item, q, a, r⟩ wr.drew (H.out.bk.shelves.below (Below.refl _ _).drew) (H.out.bk.docs.below (Below.refl _ _).drew) hn1 hm1 SM.out.2.2.1 SM.out.2.2.2 (by simp only; omega)
      rw [← hcd, ← hb2] at CB
      rw [← hb2] at HN
      have HN := Lib.hid HN
      clear hcd hb2
      (go_at_call 24; refine CB.mono ?_; rintro r' w2 ⟨A2, n2, c2, D2, m2, d2, rfl, O2, h2⟩)
      go_wp2_with fail
      have B2 := Lib.hid (show Below wr.heap.size wr w2 from (Below.refl _ _).drew.trans h2)
      have O2' := Lib.hid (show BooksO w2 wr.heap.size w2.heap.size (.slice A2 n2 c2) n2 b2.ss (.slice D2 m2 d2) m2 b2.ds from O2)
      have H2 := Lib.hid (H.out.below B2.out)
      have oe2 := Lib.hid (own_below oe B2.out)
      clear CB O2 h2 x0 x1 x2 xf e0 e1 e2 e3 e4 e5 e6 oe
      refine hK.out _ _ ((HSE.out w2 B2.out.size fun b hb => B2.out.block b (by rw [hb]; exact hgs))) (fun hHeld => ?_)
      clear hK K
      (try simp only [Act.put, List.setIfInBounds_toArray, List.set_cons_zero, List.set_cons_succ])
      have x0 := blk_at H2.out.box (j := 0) rfl; have x1 := blk_at H2.out.box (j := 1) rfl; have x2 := blk_at H2.out.box (j := 2) rfl; have xf := blk_free H2.out.box
      refine wpAnyH_take (i := 6) (oi := ?_) (v := ?_) (by simp only [List.getElem?_toArray, List.getElem?_cons_succ, List.getElem?_cons_zero]; rfl) (by kernel_rfl) (by kernel_rfl) (by kernel_rfl) ?_ (Or.inl ⟨by rfl, ?_⟩) hHeld ?_
      rotate_left 1
      focus exact fun _ _ _ h => h
      focus (intro w hSw; (try dsimp only at hSw); go_simp; try with_reducible rfl)
      (try simp only [Act.put, List.setIfInBounds_toArray, List.set_cons_zero, List.set_cons_succ])
      refine wpAnyH_take (i := 7) (oi := ?_) (v := ?_) (by simp only [List.getElem?_toArray, List.getElem?_cons_succ, List.getElem?_cons_zero]; rfl) (by kernel_rfl) (by kernel_rfl) (by kernel_rfl) ?_ (Or.inl ⟨by rfl, ?_⟩) hHeld ?_
      rotate_left 1
      focus exact fun _ _ _ h => h
      focus (intro w hSw; (try dsimp only at hSw); go_simp; try with_reducible rfl)
      (try simp only [Act.put, List.setIfInBounds_toArray, List.set_cons_zero, List.set_cons_succ])
      refine wpAnyH_take (i := 8) (oi := ?_) (v := ?_) (by simp only [List.getElem?_toArray, List.getElem?_cons_succ, List.getElem?_cons_zero]; rfl) (by kernel_rfl) (by kernel_rfl) (by kernel_rfl) ?_ (Or.inl ⟨by rfl, ?_⟩) hHeld ?_
      rotate_left 1
      focus exact fun _ _ _ h => h
      focus (intro w hSw; (try dsimp only at hSw); go_simp; try with_reducible rfl)
      (try simp only [Act.put, List.setIfInBounds_toArray, List.set_cons_zero, List.set_cons_succ])
      refine wpAnyH_ready (rs := [9]) (by kernel_rfl) (by simp) ?_
      refine AllReadyH.cons (o := ?_) (by simp only [List.getElem?_toArray, List.getElem?_cons_succ, List.getElem?_cons_zero]; rfl) (fun K hK => ?_) AllReadyH.nil
      go_simp
      refine hK.out _ _ ((HSE.out _ (by simpa [World.setCell] using B2.out.size) fun b hb => (blk_set3_ne (by omega) _ _ _).trans (B2.out.block b (by rw [hb]; exact hgs)))) (fun hHeld => ?_)
      clear hK K
      (try simp only [Act.put, List.setIfInBounds_toArray, List.set_cons_zero, List.set_cons_succ])
      refine wpAnyH_done (by kernel_rfl) ?_ _
      have HF := Lib.hid (H.out.event B2.out O2'.out (k2 := b2.k))
      have ne9 : (Value.slice (some ⟨gg, 0, none⟩) ne ec).ownBlock ≠ some (w.heap.size + 1) := by simp [Value.ownBlock]; omega
      have OF := Lib.hid (own_setne (j := 2) (own_setne (j := 1) (own_setne (j := 0) oe2.out ne9 (.slice A2 n2 c2)) ne9 (.int .i64 b2.k)) ne9 (.slice D2 m2 d2))
      clear ne9
      obtain ⟨V, hV⟩ : ∃ V, V = (((w2.setCell ⟨w.heap.size + 1, 0, none⟩ (.slice A2 n2 c2)).setCell ⟨w.heap.size + 1, 1, none⟩ (.int .i64 b2.k)).setCell ⟨w.heap.size + 1, 2, none⟩ (.slice D2 m2 d2)) := ⟨_, rfl⟩
      rw [← hV] at HF OF ⊢
      clear hV x0 x1 x2 xf hHeld
      go_wp2_with fail
      go_roundw
      case rel => exact ⟨j + 1, A2, n2, c2, b2.k, D2, m2, d2, b2.ss, b2.ds, by omega, by go_num, HF, HN, OF.out⟩
      case measure => simp [intOf]; omega
    · obtain rfl : j = ne := by omega
      clear oe
      go_wp2_with fail
      refine (l1Below_any g _ _ H.out.cur (by omega)).mono ?_; rintro e w3 ⟨y, rfl, hy0, hy1, -, hg3, hc3⟩
      have H3 := Lib.hid (H.out.call hg3 hc3)
      have SM := Lib.hid (areBk_sm HA.out)
      have FEW := Lib.hid (areBk_few HA.out)
      have RT := Lib.hid (areBk_shs HA.out)
      clear H HA hg3 hc3
      have hy3 : y = 0 ∨ y = 1 ∨ y = 2 ∨ 3 ≤ y := by omega
      rcases hy3 with rfl | rfl | rfl | hy3
      focus
        go_wp2_with fail
        refine (l1Odd_any g _ H3.out.cur).mono ?_; rintro e w4 ⟨v, rfl, hv, hg4, hc4⟩
        have H4 := Lib.hid (H3.out.call hg4 hc4)
        have x1 := blk_at H4.out.box (j := 1) rfl; have xf := blk_free H4.out.box
        clear H3 hg4 hc4
        go_upto_region 16 with fail
        obtain ⟨V, hV⟩ : ∃ V, V = w4.setCell ⟨w.heap.size + 1, 1, none⟩ (.int .i64 v) := ⟨_, rfl⟩
        have HV := Lib.hid (show BkW w g (w.heap.size + 1) V A n c v D m d ss ds by rw [hV]; exact H4.out.work v)
        rw [← hV]
        clear hV H4 x1 xf
        obtain ⟨k2, hk2⟩ : ∃ k2, k2 = v := ⟨_, rfl⟩
        rw [← hk2] at HV
        obtain ⟨ss2, hss2⟩ : ∃ ss2, ss2 = ss := ⟨_, rfl⟩
        rw [← hss2] at HV SM
        clear hk2 hss2 hv
      rotate_left
      focus
        have nl := H3.out.bk.shelves.len
        by_cases hn0 : n = 0
        focus
          subst hn0
          have x0 := blk_at H3.out.box (j := 0) rfl
          go_upto_region 16 with fail
          obtain ⟨V, hV⟩ : ∃ V, V = w3 := ⟨_, rfl⟩
          have HV := Lib.hid (show BkW w g (w.heap.size + 1) V A 0 c k D m d ss ds by rw [hV]; exact H3.out)
          obtain ⟨n, hn⟩ : ∃ n, n = 0 := ⟨_, rfl⟩
          rw [← hn] at HV
          rw [← hV]
          clear hV H3 x0 hn nl
          obtain ⟨k2, hk2⟩ : ∃ k2, k2 = k := ⟨_, rfl⟩
          rw [← hk2] at HV
          obtain ⟨ss2, hss2⟩ : ∃ ss2, ss2 = ss := ⟨_, rfl⟩
          rw [← hss2] at HV SM
          clear hk2 hss2
        rotate_left
        focus
          have zV := H3.out.gr.size
          obtain ⟨us, hus, SO⟩ := H3.out.bk
          obtain ⟨gs, rfl, hg1, hg2, ⟨cs, hcs⟩, hgf, s, iA, iC, lA, lC, hs, -, c1, -, oi, -, -, REID⟩ := SO.shelf (k := 0) (by omega) zV
          simp only [Nat.zero_mul, Nat.zero_add] at c1 REID
          have RI := Lib.hid REID; have US := Lib.hid hus; have CS := Lib.hid hcs
          have sm := FEW.out.2.1 s (List.mem_of_getElem? hs)
          have x0 := blk_at H3.out.box (j := 0) rfl
          have f3 := blk_free CS.out
          have n0 : 0 < n := by omega
          clear REID hus SO hcs hs
          go_upto_region 12 with fail
          refine wp_region_cut (S := fun w' => w'.cell? ⟨w.heap.size + 1, 0, none⟩ = some (.slice (some ⟨gs, 0, none⟩) n c) ∧ w'.cell? ⟨gs, 1, none⟩ = some (.slice iA s.ids.length iC)) 11 (by kernel_rfl) (by kernel_rfl) (by simp only [List.pop_toArray, List.dropLast_cons_cons, List.dropLast_singleton]; rfl) ⟨x0, c1⟩ (fun hHeld => ?_)
          refine wpAnyH_take (i := 0) (oi := ?_) (v := ?_) (by simp only [List.getElem?_toArray, List.getElem?_cons_zero]; rfl) (by kernel_rfl) (by kernel_rfl) (by kernel_rfl) ?_ (Or.inl ⟨by rfl, ?_⟩) hHeld ?_
          rotate_left 1
          focus exact CutPost.panic fun _ _ _ h => h
          focus (intro w hSw; (try dsimp only at hSw); go_simp; try with_reducible rfl)
          (try simp only [Act.put, List.setIfInBounds_toArray, List.set_cons_zero, List.set_cons_succ])
          refine wpAnyH_take (i := 1) (oi := ?_) (v := ?_) (by simp only [List.getElem?_toArray, List.getElem?_cons_succ, List.getElem?_cons_zero]; rfl) (by kernel_rfl) (by kernel_rfl) (by kernel_rfl) ?_ (Or.inl ⟨by rfl, ?_⟩) hHeld ?_
          rotate_left 1
          focus exact CutPost.panic fun _ _ _ h => h
          focus (intro w hSw; (try dsimp only at hSw); go_simp; try with_reducible rfl)
          (try simp only [Act.put, List.setIfInBounds_toArray, List.set_cons_zero, List.set_cons_succ])
          refine wpAnyH_take (i := 2) (oi := ?_) (v := ?_) (by simp only [List.getElem?_toArray, List.getElem?_cons_succ, List.getElem?_cons_zero]; rfl) (by kernel_rfl) (by kernel_rfl) (by kernel_rfl) ?_ (Or.inl ⟨by rfl, ?_⟩) hHeld ?_
          rotate_left 1
          focus exact CutPost.panic fun _ _ _ h => h
          focus (intro w hSw; (try dsimp only at hSw); go_simp; try with_reducible rfl)
          (try simp only [Act.put, List.setIfInBounds_toArray, List.set_cons_zero, List.set_cons_succ])
          refine wpAnyH_take (i := 3) (oi := ?_) (v := ?_) (by simp only [List.getElem?_toArray, List.getElem?_cons_succ, List.getElem?_cons_zero]; rfl) (by kernel_rfl) (by kernel_rfl) (by kernel_rfl) ?_ (Or.inl ⟨by rfl, ?_⟩) hHeld ?_
          rotate_left 1
          focus exact CutPost.panic fun _ _ _ h => h
          focus (intro w hSw; (try dsimp only at hSw); go_simp; try with_reducible rfl)
          (try simp only [Act.put, List.setIfInBounds_toArray, List.set_cons_zero, List.set_cons_succ])
          refine wpAnyH_take (i := 4) (oi := ?_) (v := ?_) (by simp only [List.getElem?_toArray, List.getElem?_cons_succ, List.getElem?_cons_zero]; rfl) (by kernel_rfl) (by kernel_rfl) (by kernel_rfl) ?_ (Or.inl ⟨by rfl, ?_⟩) hHeld ?_
          rotate_left 1
          focus exact CutPost.panic fun _ _ _ h => h
          focus (intro w hSw; (try dsimp only at hSw); go_simp; try with_reducible rfl)
          (try simp only [Act.put, List.setIfInBounds_toArray, List.set_cons_zero, List.set_cons_succ])
          refine wpAnyH_take (i := 5) (oi := ?_) (v := ?_) (by simp only [List.getElem?_toArray, List.getElem?_cons_succ, List.getElem?_cons_zero]; rfl) (by kernel_rfl) (by kernel_rfl) (by kernel_rfl) ?_ (Or.inl ⟨by rfl, ?_⟩) hHeld ?_
          rotate_left 1
          focus exact CutPost.panic fun _ _ _ h => h
          focus (intro w hSw; (try dsimp only at hSw); go_simp; try with_reducible rfl)
          (try simp only [Act.put, List.setIfInBounds_toArray, List.set_cons_zero, List.set_cons_succ])
          refine wpAnyH_take (i := 6) (oi := ?_) (v := ?_) (by simp only [List.getElem?_toArray, List.getElem?_cons_succ, List.getElem?_cons_zero]; rfl) (by kernel_rfl) (by kernel_rfl) (by kernel_rfl) ?_ (Or.inl ⟨by rfl, ?_⟩) hHeld ?_
          rotate_left 1
          focus exact CutPost.panic fun _ _ _ h => h
          focus (intro w hSw; (try dsimp only at hSw); go_simp; try with_reducible rfl)
          (try simp only [Act.put, List.setIfInBounds_toArray, List.set_cons_zero, List.set_cons_succ])
          refine wpAnyH_ready (rs := [7]) (by kernel_rfl) (by simp) ?_
          refine AllReadyH.cons (o := ?_) (by simp only [List.getElem?_toArray, List.getElem?_cons_succ, List.getElem?_cons_zero]; rfl) (fun K hK => ?_) AllReadyH.nil
          go_simp
          refine hK.out _ _ (⟨cell_alloc (show w3.drew.cell? _ = _ from x0) _, cell_alloc (show w3.drew.cell? _ = _ from c1) _⟩) (fun hHeld => ?_)
          clear hK K
          (try simp only [Act.put, List.setIfInBounds_toArray, List.set_cons_zero, List.set_cons_succ])
          refine wpAnyH_ready (rs := [8]) (by kernel_rfl) (by simp) ?_
          refine AllReadyH.cons (o := ?_) (by simp only [List.getElem?_toArray, List.getElem?_cons_succ, List.getElem?_cons_zero]; rfl) (fun K hK => ?_) AllReadyH.nil
          (refine step_app _ (by rfl) _ _ _ (by rfl) w.heap.size 3 j0 _ 1 8 Try.underlying56 hi' hz0' hz1' hz2' rfl (by omega) (.slice iA s.ids.length iC) s.ids.length (intCells s.ids) (by rfl) (oi.drew.alloc _) _ 1 1 [.int .i64 4] (by rfl) (by first | exact RS_new (by simp) | exact (RS_new (by simp)).drewN 1) (by simp [Value.oneCell']) (by unfold maxLen; omega) (by omega) (Nat.le_trans zV (Below.size (Below.drew (below_box w3 _)))) ?_; intro A6 c6 w6 o6 g6 at6 b6)
          have BX : Hid (Below w3.heap.size w3 (w3.drew.alloc (Obj.cells #[.int .i64 4] 3))) := Lib.hid ((Below.refl _ _).drew.alloc (Nat.le_refl _) _)
          have G6 := Lib.hid (grown_pre BX.out g6)
          have K6 := Lib.hid (Keeps.grown (q := none) oi G6.out (by decide) (by decide))
          have Q6 := Lib.hid (K6.out _ _ _ (.inr ⟨rfl, by simp⟩) H3.out.box)
          have R6 := Lib.hid (K6.out _ _ _ (.inr ⟨rfl, by simp⟩) H3.out.res)
          have q6 := blk_at Q6.out (j := 0) rfl
          have CS6 := Lib.hid ((G6.out.block gs hg2 (fun h => own_ne_type oi CS.out (by decide) h.symm)).trans CS.out)
          have d6 := (World.cell?_of_block (a := ⟨gs, 1, none⟩) (G6.out.block gs hg2 (fun h => own_ne_type oi CS.out (by decide) h.symm))).trans c1
          have f6 := blk_free CS6.out
          refine hK.out _ _ (⟨q6, d6⟩) (fun hHeld => ?_)
          clear hK K
          (try simp only [Act.put, List.setIfInBounds_toArray, List.set_cons_zero, List.set_cons_succ])
          refine wpAnyH_take (i := 9) (oi := ?_) (v := ?_) (by simp only [List.getElem?_toArray, List.getElem?_cons_succ, List.getElem?_cons_zero]; rfl) (by kernel_rfl) (by kernel_rfl) (by kernel_rfl) ?_ (Or.inl ⟨by rfl, ?_⟩) hHeld ?_
          rotate_left 1
          focus exact CutPost.panic fun _ _ _ h => h
          focus (intro w hSw; (try dsimp only at hSw); go_simp; try with_reducible rfl)
          (try simp only [Act.put, List.setIfInBounds_toArray, List.set_cons_zero, List.set_cons_succ])
          refine wpAnyH_take (i := 10) (oi := ?_) (v := ?_) (by simp only [List.getElem?_toArray, List.getElem?_cons_succ, List.getElem?_cons_zero]; rfl) (by kernel_rfl) (by kernel_rfl) (by kernel_rfl) ?_ (Or.inl ⟨by rfl, ?_⟩) hHeld ?_
          rotate_left 1
          focus exact CutPost.panic fun _ _ _ h => h
          focus (intro w hSw; (try dsimp only at hSw); go_simp; try with_reducible rfl)
          (try simp only [Act.put, List.setIfInBounds_toArray, List.set_cons_zero, List.set_cons_succ])
          refine wpAnyH_done (by kernel_rfl) ?_ _
          refine CutPost.step (o := ?_) (by simp only [List.getElem?_toArray, List.getElem?_cons_succ, List.getElem?_cons_zero]; rfl) (fun K hK => ?_)
          go_simp
          refine hK _ _ ?_
          clear hK K
          (try simp only [Act.put, List.setIfInBounds_toArray, List.set_cons_zero, List.set_cons_succ])
          have O6 : w6.ownsRow w.heap.size 3 1 (.slice A6 (s.ids.length + 1) c6) (s.ids.length + 1) (intCells (s.ids ++ [4])) := by simpa [intCells] using o6
          have SOF := Lib.hid (RI.out w6 A6 (s.ids.length + 1) c6 (s.ids ++ [4]) G6.out O6 (at6.imp id fun h x hx => by rw [h] at hx; injection hx with hx; rw [← hx]; exact BX.out.size)).top
          have K9 := Lib.hid (Keeps.set (q := none) (u := .slice A6 (s.ids.length + 1) c6) (p := ⟨gs, 1, none⟩) CS6.out (by decide) (by decide))
          have QF := Lib.hid (K9.out _ _ _ (.inr ⟨rfl, by simp⟩) Q6.out)
          have RF := Lib.hid (K9.out _ _ _ (.inr ⟨rfl, by simp⟩) R6.out)
          have gg : g < gs := by have := H3.out.gx; omega
          have GF := Lib.hid (grown_setNew' (grown_own H3.out.gr G6.out (fun j hj => (oi.lt j hj).1)) (p := ⟨gs, 1, none⟩) hg1 (.slice A6 (s.ids.length + 1) c6))
          have CF := Lib.hid (cur_setNew' (cur_grown H3.out.cur G6.out (fun j hj => by have := (oi.lt j hj).1; have := H3.out.gx; omega)) (p := ⟨gs, 1, none⟩) gg (.slice A6 (s.ids.length + 1) c6))
          have SF : w.heap.size + 1 < (w6.setCell ⟨gs, 1, none⟩ (.slice A6 (s.ids.length + 1) c6)).heap.size := by have := H3.out.sz; have := G6.out.size; simp [World.setCell]; omega
          have HV : Hid (BkW w g (w.heap.size + 1) (w6.setCell ⟨gs, 1, none⟩ (.slice A6 (s.ids.length + 1) c6)) (some ⟨gs, 0, none⟩) n c k D m d (ss.set 0 ⟨s.item, s.ids ++ [4], s.lays⟩) ds) :=
            Lib.hid ⟨H3.out.gx, H3.out.wx, SF, RF.out, QF.out, GF.out, CF.out, ⟨us, US.out, SOF.out⟩⟩
          obtain ⟨V, hV⟩ : ∃ V, V = w6.setCell ⟨gs, 1, none⟩ (.slice A6 (s.ids.length + 1) c6) := ⟨_, rfl⟩
          rw [← hV] at HV ⊢
          have SM := Lib.hid (sm_set (k := 0) (x := ⟨s.item, s.ids ++ [4], s.lays⟩) SM.out ⟨by simp only; omega, by simp; omega, by simp only; omega⟩)
          clear hV o6 g6 at6 b6 O6 d6 f6 q6 c1 x0 f3 oi G6 K6 K9 SOF QF RF GF CF SF Q6 R6 CS6 BX RI H3 hHeld
          obtain ⟨A, hA⟩ : ∃ A, A = some (⟨gs, 0, none⟩ : Addr) := ⟨_, rfl⟩
          rw [← hA] at HV
          obtain ⟨k2, hk2⟩ : ∃ k2, k2 = k := ⟨_, rfl⟩
          rw [← hk2] at HV
          obtain ⟨ss2, hss2⟩ : ∃ ss2, ss2 = ss.set 0 ⟨s.item, s.ids ++ [4], s.lays⟩ := ⟨_, rfl⟩
          rw [← hss2] at HV SM
          clear hk2 hss2 hA
          go_upto_region 16 with fail
      rotate_left 2
      focus
        have nl := H3.out.bk.shelves.len
        by_cases hn0 : n = 0
        focus
          subst hn0
          have x0 := blk_at H3.out.box (j := 0) rfl
          go_upto_region 16 with fail
          obtain ⟨V, hV⟩ : ∃ V, V = w3 := ⟨_, rfl⟩
          have HV := Lib.hid (show BkW w g (w.heap.size + 1) V A 0 c k D m d ss ds by rw [hV]; exact H3.out)
          obtain ⟨n, hn⟩ : ∃ n, n = 0 := ⟨_, rfl⟩
          rw [← hn] at HV
          rw [← hV]
          clear hV H3 x0 hn nl
          obtain ⟨k2, hk2⟩ : ∃ k2, k2 = k := ⟨_, rfl⟩
          rw [← hk2] at HV
          obtain ⟨ss2, hss2⟩ : ∃ ss2, ss2 = ss := ⟨_, rfl⟩
          rw [← hss2] at HV SM
          clear hk2 hss2
        rotate_left
        focus
          have zV := H3.out.gr.size
          obtain ⟨us, hus, SO⟩ := H3.out.bk
          obtain ⟨gs, rfl, s, lA, lC, hs, c2, ol, RELAY⟩ := SO.lays (k := 0) (by omega)
          simp only [Nat.zero_mul, Nat.zero_add] at c2
          have RL := Lib.hid RELAY; have US := Lib.hid hus
          have sm := FEW.out.2.1 s (List.mem_of_getElem? hs)
          have good := (areLayers_iff.1 (shsOk_at RT.out (List.mem_of_getElem? hs)).1).2.1
          have x0 := blk_at H3.out.box (j := 0) rfl
          have n0 : 0 < n := by omega
          clear RELAY hus SO hs
          by_cases hl0 : s.lays.length = 0
          focus
            go_upto_region 16 with fail
            obtain ⟨V, hV⟩ : ∃ V, V = w3 := ⟨_, rfl⟩
            have HV := Lib.hid (show BkW w g (w.heap.size + 1) V (some ⟨gs, 0, none⟩) n c k D m d ss ds by rw [hV]; exact H3.out)
            rw [← hV]
            clear hV H3 x0 c2 ol
            obtain ⟨A, hA⟩ : ∃ A, A = some (⟨gs, 0, none⟩ : Addr) := ⟨_, rfl⟩
            rw [← hA] at HV
            obtain ⟨k2, hk2⟩ : ∃ k2, k2 = k := ⟨_, rfl⟩
            rw [← hk2] at HV
            obtain ⟨ss2, hss2⟩ : ∃ ss2, ss2 = ss := ⟨_, rfl⟩
            rw [← hss2] at HV SM
            clear hk2 hss2 hA
          rotate_left
          focus
            obtain ⟨gl, rfl, hl1, hl2, hlc, hlf⟩ := own_addr ol (by omega)
            obtain ⟨⟨lq, lv, lu⟩, lt, hlays⟩ : ∃ (y : Lay) (t : List Lay), s.lays = y :: t := by
              cases h : s.lays with
              | nil => rw [h] at hl0; exact absurd rfl hl0
              | cons y t => exact ⟨y, t, rfl⟩
            have gd := good ⟨lq, lv, lu⟩ (by rw [hlays]; simp)
            have lv0 : 0 ≤ lv := gd.2.2.1
            have lv1 : lv ≤ 1000000000 := gd.2.2.2.1
            have c3 : w3.cell? ⟨gl, 1, none⟩ = some (.int .i64 lv) := by rw [hlc 1 (by omega), hlays]; rfl
            have f3 := hlf 1
            have lp : 0 < s.lays.length := by omega
            have SS := ol.stored 1 (.int .i64 (lv + 1))
            have hset : (layCells s.lays).set 1 (.int .i64 (lv + 1)) = layCells (⟨lq, lv + 1, lu⟩ :: lt) := by rw [hlays]; rfl
            rw [hset] at SS
            have SW := Lib.hid SS
            have OL := Lib.hid ol
            clear hlc hlf hset SS good gd ol
            go_upto_region 15 with fail
            refine wp_region_cut (S := fun w' => w'.cell? ⟨w.heap.size + 1, 0, none⟩ = some (.slice (some ⟨gs, 0, none⟩) n c) ∧ w'.cell? ⟨gs, 2, none⟩ = some (.slice (some ⟨gl, 0, none⟩) s.lays.length lC) ∧ w'.cell? ⟨gl, 1, none⟩ = some (.int .i64 lv)) 16 (by kernel_rfl) (by kernel_rfl) (by simp only [List.pop_toArray, List.dropLast_cons_cons, List.dropLast_singleton]; rfl) ⟨x0, c2, c3⟩ (fun hHeld => ?_)
            refine wpAnyH_take (i := 0) (oi := ?_) (v := ?_) (by simp only [List.getElem?_toArray, List.getElem?_cons_zero]; rfl) (by kernel_rfl) (by kernel_rfl) (by kernel_rfl) ?_ (Or.inl ⟨by rfl, ?_⟩) hHeld ?_
            rotate_left 1
            focus exact CutPost.panic fun _ _ _ h => h
            focus (intro w hSw; (try dsimp only at hSw); go_simp; try with_reducible rfl)
            (try simp only [Act.put, List.setIfInBounds_toArray, List.set_cons_zero, List.set_cons_succ])
            refine wpAnyH_take (i := 1) (oi := ?_) (v := ?_) (by simp only [List.getElem?_toArray, List.getElem?_cons_succ, List.getElem?_cons_zero]; rfl) (by kernel_rfl) (by kernel_rfl) (by kernel_rfl) ?_ (Or.inl ⟨by rfl, ?_⟩) hHeld ?_
            rotate_left 1
            focus exact CutPost.panic fun _ _ _ h => h
            focus (intro w hSw; (try dsimp only at hSw); go_simp; try with_reducible rfl)
            (try simp only [Act.put, List.setIfInBounds_toArray, List.set_cons_zero, List.set_cons_succ])
            refine wpAnyH_take (i := 2) (oi := ?_) (v := ?_) (by simp only [List.getElem?_toArray, List.getElem?_cons_succ, List.getElem?_cons_zero]; rfl) (by kernel_rfl) (by kernel_rfl) (by kernel_rfl) ?_ (Or.inl ⟨by rfl, ?_⟩) hHeld ?_
            rotate_left 1
            focus exact CutPost.panic fun _ _ _ h => h
            focus (intro w hSw; (try dsimp only at hSw); go_simp; try with_reducible rfl)
            (try simp only [Act.put, List.setIfInBounds_toArray, List.set_cons_zero, List.set_cons_succ])
            refine wpAnyH_take (i := 3) (oi := ?_) (v := ?_) (by simp only [List.getElem?_toArray, List.getElem?_cons_succ, List.getElem?_cons_zero]; rfl) (by kernel_rfl) (by kernel_rfl) (by kernel_rfl) ?_ (Or.inl ⟨by rfl, ?_⟩) hHeld ?_
            rotate_left 1
            focus exact CutPost.panic fun _ _ _ h => h
            focus (intro w hSw; (try dsimp only at hSw); go_simp; try with_reducible rfl)
            (try simp only [Act.put, List.setIfInBounds_toArray, List.set_cons_zero, List.set_cons_succ])
            refine wpAnyH_take (i := 4) (oi := ?_) (v := ?_) (by simp only [List.getElem?_toArray, List.getElem?_cons_succ, List.getElem?_cons_zero]; rfl) (by kernel_rfl) (by kernel_rfl) (by kernel_rfl) ?_ (Or.inl ⟨by rfl, ?_⟩) hHeld ?_
            rotate_left 1
            focus exact CutPost.panic fun _ _ _ h => h
            focus (intro w hSw; (try dsimp only at hSw); go_simp; try with_reducible rfl)
            (try simp only [Act.put, List.setIfInBounds_toArray, List.set_cons_zero, List.set_cons_succ])
            refine wpAnyH_take (i := 5) (oi := ?_) (v := ?_) (by simp only [List.getElem?_toArray, List.getElem?_cons_succ, List.getElem?_cons_zero]; rfl) (by kernel_rfl) (by kernel_rfl) (by kernel_rfl) ?_ (Or.inl ⟨by rfl, ?_⟩) hHeld ?_
            rotate_left 1
            focus exact CutPost.panic fun _ _ _ h => h
            focus (intro w hSw; (try dsimp only at hSw); go_simp; try with_reducible rfl)
            (try simp only [Act.put, List.setIfInBounds_toArray, List.set_cons_zero, List.set_cons_succ])
            refine wpAnyH_take (i := 6) (oi := ?_) (v := ?_) (by simp only [List.getElem?_toArray, List.getElem?_cons_succ, List.getElem?_cons_zero]; rfl) (by kernel_rfl) (by kernel_rfl) (by kernel_rfl) ?_ (Or.inl ⟨by rfl, ?_⟩) hHeld ?_
            rotate_left 1
            focus exact CutPost.panic fun _ _ _ h => h
            focus (intro w hSw; (try dsimp only at hSw); go_simp; try with_reducible rfl)
            (try simp only [Act.put, List.setIfInBounds_toArray, List.set_cons_zero, List.set_cons_succ])
            refine wpAnyH_take (i := 7) (oi := ?_) (v := ?_) (by simp only [List.getElem?_toArray, List.getElem?_cons_succ, List.getElem?_cons_zero]; rfl) (by kernel_rfl) (by kernel_rfl) (by kernel_rfl) ?_ (Or.inl ⟨by rfl, ?_⟩) hHeld ?_
            rotate_left 1
            focus exact CutPost.panic fun _ _ _ h => h
            focus (intro w hSw; (try dsimp only at hSw); go_simp; try with_reducible rfl)
            (try simp only [Act.put, List.setIfInBounds_toArray, List.set_cons_zero, List.set_cons_succ])
            refine wpAnyH_take (i := 8) (oi := ?_) (v := ?_) (by simp only [List.getElem?_toArray, List.getElem?_cons_succ, List.getElem?_cons_zero]; rfl) (by kernel_rfl) (by kernel_rfl) (by kernel_rfl) ?_ (Or.inl ⟨by rfl, ?_⟩) hHeld ?_
            rotate_left 1
            focus exact CutPost.panic fun _ _ _ h => h
            focus (intro w hSw; (try dsimp only at hSw); go_simp; try with_reducible rfl)
            (try simp only [Act.put, List.setIfInBounds_toArray, List.set_cons_zero, List.set_cons_succ])
            refine wpAnyH_take (i := 9) (oi := ?_) (v := ?_) (by simp only [List.getElem?_toArray, List.getElem?_cons_succ, List.getElem?_cons_zero]; rfl) (by kernel_rfl) (by kernel_rfl) (by kernel_rfl) ?_ (Or.inl ⟨by rfl, ?_⟩) hHeld ?_
            rotate_left 1
            focus exact CutPost.panic fun _ _ _ h => h
            focus (intro w hSw; (try dsimp only at hSw); go_simp; try with_reducible rfl)
            (try simp only [Act.put, List.setIfInBounds_toArray, List.set_cons_zero, List.set_cons_succ])
            refine wpAnyH_take (i := 10) (oi := ?_) (v := ?_) (by simp only [List.getElem?_toArray, List.getElem?_cons_succ, List.getElem?_cons_zero]; rfl) (by kernel_rfl) (by kernel_rfl) (by kernel_rfl) ?_ (Or.inl ⟨by rfl, ?_⟩) hHeld ?_
            rotate_left 1
            focus exact CutPost.panic fun _ _ _ h => h
            focus (intro w hSw; (try dsimp only at hSw); go_simp; try with_reducible rfl)
            (try simp only [Act.put, List.setIfInBounds_toArray, List.set_cons_zero, List.set_cons_succ])
            refine wpAnyH_take (i := 11) (oi := ?_) (v := ?_) (by simp only [List.getElem?_toArray, List.getElem?_cons_succ, List.getElem?_cons_zero]; rfl) (by kernel_rfl) (by kernel_rfl) (by kernel_rfl) ?_ (Or.inl ⟨by rfl, ?_⟩) hHeld ?_
            rotate_left 1
            focus exact CutPost.panic fun _ _ _ h => h
            focus (intro w hSw; (try dsimp only at hSw); go_simp; try with_reducible rfl)
            (try simp only [Act.put, List.setIfInBounds_toArray, List.set_cons_zero, List.set_cons_succ])
            refine wpAnyH_take (i := 12) (oi := ?_) (v := ?_) (by simp only [List.getElem?_toArray, List.getElem?_cons_succ, List.getElem?_cons_zero]; rfl) (by kernel_rfl) (by kernel_rfl) (by kernel_rfl) ?_ (Or.inl ⟨by rfl, ?_⟩) hHeld ?_
            rotate_left 1
            focus exact CutPost.panic fun _ _ _ h => h
            focus (intro w hSw; (try dsimp only at hSw); go_simp; try with_reducible rfl)
            (try simp only [Act.put, List.setIfInBounds_toArray, List.set_cons_zero, List.set_cons_succ])
            refine wpAnyH_take (i := 13) (oi := ?_) (v := ?_) (by simp only [List.getElem?_toArray, List.getElem?_cons_succ, List.getElem?_cons_zero]; rfl) (by kernel_rfl) (by kernel_rfl) (by kernel_rfl) ?_ (Or.inl ⟨by rfl, ?_⟩) hHeld ?_
            rotate_left 1
            focus exact CutPost.panic fun _ _ _ h => h
            focus (intro w hSw; (try dsimp only at hSw); go_simp; try with_reducible rfl)
            (try simp only [Act.put, List.setIfInBounds_toArray, List.set_cons_zero, List.set_cons_succ])
            refine wpAnyH_take (i := 14) (oi := ?_) (v := ?_) (by simp only [List.getElem?_toArray, List.getElem?_cons_succ, List.getElem?_cons_zero]; rfl) (by kernel_rfl) (by kernel_rfl) (by kernel_rfl) ?_ (Or.inl ⟨by rfl, ?_⟩) hHeld ?_
            rotate_left 1
            focus exact CutPost.panic fun _ _ _ h => h
            focus (intro w hSw; (try dsimp only at hSw); go_simp; try with_reducible rfl)
            (try simp only [Act.put, List.setIfInBounds_toArray, List.set_cons_zero, List.set_cons_succ])
            refine wpAnyH_take (i := 15) (oi := ?_) (v := ?_) (by simp only [List.getElem?_toArray, List.getElem?_cons_succ, List.getElem?_cons_zero]; rfl) (by kernel_rfl) (by kernel_rfl) (by kernel_rfl) ?_ (Or.inl ⟨by rfl, ?_⟩) hHeld ?_
            rotate_left 1
            focus exact CutPost.panic fun _ _ _ h => h
            focus (intro w hSw; (try dsimp only at hSw); go_simp; try with_reducible rfl)
            (try simp only [Act.put, List.setIfInBounds_toArray, List.set_cons_zero, List.set_cons_succ])
            refine wpAnyH_done (by kernel_rfl) ?_ _
            refine CutPost.step (o := ?_) (by simp only [List.getElem?_toArray, List.getElem?_cons_succ, List.getElem?_cons_zero]; rfl) (fun K hK => ?_)
            go_simp
            refine hK _ _ ?_
            clear hK K
            (try simp only [Act.put, List.setIfInBounds_toArray, List.set_cons_zero, List.set_cons_succ])
            have wk : IntKind.i64.wrap (lv + 1) = lv + 1 := IntWalk.i64_in _ (by omega)
            rw [wk]
            have HW := Lib.hid (RL.out _ _ SW.out.2 SW.out.1).top
            have QB := Lib.hid ((SW.out.2.block (w.heap.size + 1) H3.out.sz (fun h => own_ne_type OL.out H3.out.box (by decide) h.symm)).trans H3.out.box)
            have RB := Lib.hid ((SW.out.2.block w.heap.size (by have := H3.out.sz; omega) (fun h => own_ne_type OL.out H3.out.res (by decide) h.symm)).trans H3.out.res)
            have GF := Lib.hid (grown_own H3.out.gr SW.out.2 (fun j hj => (OL.out.lt j hj).1))
            have CF := Lib.hid (cur_grown H3.out.cur SW.out.2 (fun j hj => by have := (OL.out.lt j hj).1; have := H3.out.gx; omega))
            have SF : w.heap.size + 1 < (w3.setCell ⟨gl, 1, none⟩ (.int .i64 (lv + 1))).heap.size := by have := H3.out.sz; simp [World.setCell]; omega
            have HV0 : BkW w g (w.heap.size + 1) (w3.setCell ⟨gl, 1, none⟩ (.int .i64 (lv + 1))) (some ⟨gs, 0, none⟩) n c k D m d (ss.set 0 ⟨s.item, s.ids, ⟨lq, lv + 1, lu⟩ :: lt⟩) ds :=
              ⟨H3.out.gx, H3.out.wx, SF, RB.out, QB.out, GF.out, CF.out, ⟨us, US.out, HW.out⟩⟩
            have HV := Lib.hid (HV0.below (Below.refl _ _).drew)
            obtain ⟨V, hV⟩ : ∃ V, V = (w3.setCell ⟨gl, 1, none⟩ (.int .i64 (lv + 1))).drew := ⟨_, rfl⟩
            rw [← hV] at HV ⊢
            have lls : (⟨lq, lv + 1, lu⟩ :: lt : List Lay).length = s.lays.length := by rw [hlays]; simp
            have SM := Lib.hid (sm_set (k := 0) (x := ⟨s.item, s.ids, ⟨lq, lv + 1, lu⟩ :: lt⟩) SM.out ⟨by simp only; omega, by simp only; omega, by simp only; rw [lls]; omega⟩)
            clear hV HV0 HW QB RB GF CF SF SW OL lls wk c3 c2 f3 x0 RL H3 hHeld hlays lv0 lv1
            obtain ⟨A, hA⟩ : ∃ A, A = some (⟨gs, 0, none⟩ : Addr) := ⟨_, rfl⟩
            rw [← hA] at HV
            obtain ⟨k2, hk2⟩ : ∃ k2, k2 = k := ⟨_, rfl⟩
            rw [← hk2] at HV
            obtain ⟨ss2, hss2⟩ : ∃ ss2, ss2 = ss.set 0 ⟨s.item, s.ids, ⟨lq, lv + 1, lu⟩ :: lt⟩ := ⟨_, rfl⟩
            rw [← hss2] at HV SM
            clear hk2 hss2 hA
            go_upto_region 16 with fail
      rotate_left 3
      focus
        have q0 : (y == 0) = false := by simp; omega
        have q1 : (y == 1) = false := by simp; omega
        have q2 : (y == 2) = false := by simp; omega
        go_upto_region 16 with fail
        obtain ⟨V, hV⟩ : ∃ V, V = w3 := ⟨_, rfl⟩
        have HV := Lib.hid (show BkW w g (w.heap.size + 1) V A n c k D m d ss ds by rw [hV]; exact H3.out)
        rw [← hV]
        clear hV H3 q0 q1 q2
        obtain ⟨k2, hk2⟩ : ∃ k2, k2 = k := ⟨_, rfl⟩
        rw [← hk2] at HV
        obtain ⟨ss2, hss2⟩ : ∃ ss2, ss2 = ss := ⟨_, rfl⟩
        rw [← hss2] at HV SM
        clear hk2 hss2
      all_goals
        have x0 := blk_at HV.out.box (j := 0) rfl; have x1 := blk_at HV.out.box (j := 1) rfl; have x2 := blk_at HV.out.box (j := 2) rfl
        have r0 := blk_at HV.out.res (j := 0) rfl; have r1 := blk_at HV.out.res (j := 1) rfl; have r2 := blk_at HV.out.res (j := 2) rfl; have rf := blk_free HV.out.res
        go_wp2_with fail
        refine bodyPost_ret (v := .agg #[.slice A n c, .int .i64 k2, .slice D m d]) (by simp [results, Try.results66, go_sem, r0, r1, r2]) rfl ⟨A, n, c, k2, D, m, d, ss2, ds, rfl, (HV.out.fin _ _ _).2.2, SM.out, (HV.out.fin _ _ _).1, (HV.out.fin _ _ _).2.1⟩
end Go.Proofs.Ytlgodbjbllpipaa
namespace Go.Proofs.Ytlgodbjbllpipaa
open Go.ChangeShapes Go.WideShapes Go.ChangeAt Go.RowKit

deriving instance DecidableEq for En
deriving instance DecidableEq for Shf
deriving instance DecidableEq for Doc
def sameShf (a b : Shf) : Bool := decide (a.item = b.item) && (decide (a.ids = b.ids) && decide (a.lays = b.lays))
def sameDoc (a b : Doc) : Bool := decide (a.num = b.num) && (decide (a.day = b.day) && decide (a.ents = b.ents))

theorem lay_waysS (q v u q' v' u' : Int) : (q = q' ∧ v = v' ∧ u = u') ∨ ((⟨q, v, u⟩ : Lay) ≠ ⟨q', v', u'⟩ ∧ ((q = q' ∧ v = v' ∧ ¬ u = u') ∨ (q = q' ∧ ¬ v = v') ∨ ¬ q = q')) := by
  by_cases h1 : q = q' <;> by_cases h2 : v = v' <;> by_cases h3 : u = u' <;> simp [h1, h2, h3]
theorem en_waysS (a : ByteArray) (x : Int) (b : ByteArray) (y : Int) : (a = b ∧ x = y) ∨ ((⟨a, x⟩ : En) ≠ ⟨b, y⟩ ∧ ((a = b ∧ ¬ x = y) ∨ ¬ a.toList = b.toList)) := by
  by_cases h1 : a = b
  · by_cases h2 : x = y <;> simp [h1, h2]
  · exact .inr ⟨by simp [h1], .inr (text_ne h1)⟩
theorem sameShf_eq (a b : Shf) : sameShf a b = decide (a = b) := by
  obtain ⟨a1, a2, a3⟩ := a; obtain ⟨b1, b2, b3⟩ := b
  simp [sameShf]
theorem sameDoc_eq (a b : Doc) : sameDoc a b = decide (a = b) := by
  obtain ⟨a1, a2, a3⟩ := a; obtain ⟨b1, b2, b3⟩ := b
  simp [sameDoc]
def sameBk (ss ss' : List Shf) (k k' : Int) (ds ds' : List Doc) : Bool := decide (k = k') && (decide (ss = ss') && decide (ds = ds'))
set_option maxRecDepth 100000 in
set_option maxHeartbeats 4000000 in
theorem implSameShelf (s t : Shf) (iA : Option Addr) (iN iC : Nat) (lA : Option Addr) (lN lC : Nat) (iA' : Option Addr) (iN' iC' : Nat) (lA' : Option Addr) (lN' lC' : Nat) (w : World)
    (hi : RS w 1 iA iN (intCells s.ids)) (hl : RS w 3 lA lN (layCells s.lays)) (hi' : RS w 1 iA' iN' (intCells t.ids)) (hl' : RS w 3 lA' lN' (layCells t.lays))
    (h1 : iN ≤ 9223372036854775807) (h2 : lN ≤ 9223372036854775807) (h3 : iN' ≤ 9223372036854775807) (h4 : lN' ≤ 9223372036854775807) :
    Calls Try.prog 37 #[.agg #[.string s.item, .slice iA iN iC, .slice lA lN lC], .agg #[.string t.item, .slice iA' iN' iC', .slice lA' lN' lC']] w fun e w' => e = .returned (.bool (sameShf s t)) ∧ Below w.heap.size w w' := by
  obtain ⟨item, ids, lays⟩ := s
  obtain ⟨item', ids', lays'⟩ := t
  simp only at hi hl hi' hl'
  have zi := Lib.hid hi.ints; have zi' := Lib.hid hi'.ints; have zl := Lib.hid hl.lay; have zl' := Lib.hid hl'.lay
  have b0 := Lib.hid (below_then (below_box w (Obj.cells #[.string item, .slice iA iN iC, .slice lA lN lC] 59)) (below_box _ (Obj.cells #[.string item', .slice iA' iN' iC', .slice lA' lN' lC'] 59)))
  by_cases e1 : item = item'
  case neg =>
    have S := Lib.hid (show sameShf ⟨item, ids, lays⟩ ⟨item', ids', lays'⟩ = false by simp [sameShf, e1])
    have n1 := text_ne e1
    clear e1
    go_enter Try.func37, Try.ntmps37
    go_wp2_with fail
    go_ret
    exact ⟨ret_bool S.out.symm, b0.out⟩
  subst e1
  by_cases e2 : iN = iN'
  case neg =>
    have S := Lib.hid (show sameShf ⟨item, ids, lays⟩ ⟨item, ids', lays'⟩ = false by
      have : ids ≠ ids' := fun h => e2 (by rw [← zi.out, ← zi'.out, h])
      simp [sameShf, this])
    have n1 : ¬ (iN : Int) = iN' := by omega
    clear e2
    go_enter Try.func37, Try.ntmps37
    go_wp2_with fail
    go_ret
    exact ⟨ret_bool S.out.symm, b0.out⟩
  subst e2
  by_cases e3 : lN = lN'
  case neg =>
    have S := Lib.hid (show sameShf ⟨item, ids, lays⟩ ⟨item, ids', lays'⟩ = false by
      have : lays ≠ lays' := fun h => e3 (by rw [← zl.out, ← zl'.out, h])
      simp [sameShf, this])
    have n1 : ¬ (lN : Int) = lN' := by omega
    clear e3
    go_enter Try.func37, Try.ntmps37
    go_wp2_with fail
    go_ret
    exact ⟨ret_bool S.out.symm, b0.out⟩
  subst e3
  have X := Lib.hid (blk_alloc (blk_new1 w (Obj.cells #[.string item, .slice iA iN iC, .slice lA lN lC] 59)) (Obj.cells #[.string item, .slice iA' iN iC', .slice lA' lN lC'] 59))
  have Y := Lib.hid (blk_new2 w (Obj.cells #[.string item, .slice iA iN iC, .slice lA lN lC] 59) (Obj.cells #[.string item, .slice iA' iN iC', .slice lA' lN lC'] 59))
  have hi := hi.below b0.out; have hi' := hi'.below b0.out; have hl := hl.below b0.out; have hl' := hl'.below b0.out
  go_enter Try.func37, Try.ntmps37
  go_wp2_with fail
  generalize hwo : (w.alloc (Obj.cells #[.string item, .slice iA iN iC, .slice lA lN lC] 59)).alloc (Obj.cells #[.string item, .slice iA' iN iC', .slice lA' lN lC'] 59) = wo at *
  clear hwo
  go_loopw [33] (fun i wr => ∃ k : Nat, k ≤ iN ∧ i = .int .i64 k ∧ Below wo.heap.size wo wr ∧ Hid (∀ j, j < k → ids[j]? = ids'[j]?)) (fun i _ => iN - (intOf i).toNat)
  case atStart => exact ⟨0, Nat.zero_le _, rfl, Below.refl _ _, fun _ h => absurd h (Nat.not_lt_zero _)⟩
  case round =>
    obtain ⟨k, hk, rfl, hb, hsame⟩ := hrel
    have x1 := blk_at (blk_keep hb X.out) (j := 1) rfl
    have y1 := blk_at (blk_keep hb Y.out) (j := 1) rfl
    by_cases hlt : k < iN
    · obtain ⟨g, off, rfl, x, hx, hc⟩ := (hi.below hb).intAt hlt
      obtain ⟨g', off', rfl, x', hx', hc'⟩ := (hi'.below hb).intAt hlt
      have HX := Lib.hid hx; clear hx
      have HX' := Lib.hid hx'; clear hx'
      have i1 : (0 : Int) ≤ k := by omega
      have i2 : (k : Int) < iN := by omega
      by_cases hxx : x = x'
      · subst hxx
        go_wp2_with fail
        go_quiet (fail)
        go_wp2_with fail
        go_roundw
        case rel =>
          refine ⟨k + 1, by omega, by go_num, below_drewN hb _, fun j hj => ?_⟩
          rcases Nat.lt_succ_iff_lt_or_eq.1 hj with h' | rfl
          · exact hsame.out j h'
          · rw [HX.out, HX'.out]
        case measure => simp [intOf]; omega
      · have S := Lib.hid (show sameShf ⟨item, ids, lays⟩ ⟨item, ids', lays'⟩ = false by
          have : ids ≠ ids' := fun h => hxx (by have := HX.out.symm.trans ((congrArg (·[k]?) h).trans HX'.out); simpa using this)
          simp [sameShf, this])
        go_wp2_with fail
        go_quiet (fail)
        go_wp2_with fail
        go_ret
        exact ⟨ret_bool S.out.symm, below_app b0.out (below_drewN hb _) b0.out.size⟩
    · obtain rfl : iN = k := by omega
      have EI := Lib.hid (show ids = ids' from ext_upto zi.out zi'.out hsame.out)
      clear hsame x1 y1
      have x2 := blk_at (blk_keep hb X.out) (j := 2) rfl
      obtain ⟨wz, hwz⟩ : ∃ x : World, x = wr := ⟨_, rfl⟩
      subst hwz
      go_wp2_with fail
      go_loopw [51] (fun i wr => ∃ k : Nat, k ≤ lN ∧ i = .int .i64 k ∧ Below wo.heap.size wo wr ∧ Hid (∀ j, j < k → lays[j]? = lays'[j]?)) (fun i _ => lN - (intOf i).toNat)
      case atStart => exact ⟨0, Nat.zero_le _, rfl, hb, fun _ h => absurd h (Nat.not_lt_zero _)⟩
      case round =>
        clear x2
        obtain ⟨k, hk, rfl, hb, hsame⟩ := hrel
        have x2 := blk_at (blk_keep hb X.out) (j := 2) rfl
        have y2 := blk_at (blk_keep hb Y.out) (j := 2) rfl
        by_cases hlt : k < lN
        · obtain ⟨g, off, rfl, q, v, u, hx, hq, hv, hu⟩ := (hl.below hb).layAt hlt
          obtain ⟨g', off', rfl, q', v', u', hx', hq', hv', hu'⟩ := (hl'.below hb).layAt hlt
          have HX := Lib.hid hx; clear hx
          have HX' := Lib.hid hx'; clear hx'
          have i1 : (0 : Int) ≤ k := by omega
          have i2 : (k : Int) < lN := by omega
          rcases lay_waysS q v u q' v' u' with ⟨rfl, rfl, rfl⟩ | ⟨hne, W⟩
          · go_wp2_with fail
            go_quiet (fail)
            go_wp2_with fail
            go_roundw
            case rel =>
              refine ⟨k + 1, by omega, by go_num, below_drewN hb _, fun j hj => ?_⟩
              rcases Nat.lt_succ_iff_lt_or_eq.1 hj with h' | rfl
              · exact hsame.out j h'
              · rw [HX.out, HX'.out]
            case measure => simp [intOf]; omega
          · have S := Lib.hid (show sameShf ⟨item, ids, lays⟩ ⟨item, ids', lays'⟩ = false by
              have : lays ≠ lays' := fun h => hne (Option.some.inj (HX.out.symm.trans ((congrArg (·[k]?) h).trans HX'.out)))
              simp [sameShf, this])
            clear hne
            rcases W with ⟨rfl, rfl, n1⟩ | ⟨rfl, n1⟩ | n1
            all_goals
              go_wp2_with fail
              go_quiet (fail)
              go_wp2_with fail
              go_ret
              exact ⟨ret_bool S.out.symm, below_app b0.out (below_drewN hb _) b0.out.size⟩
        · obtain rfl : lN = k := by omega
          have S := Lib.hid (show sameShf ⟨item, ids, lays⟩ ⟨item, ids', lays'⟩ = true by
            have : lays = lays' := ext_upto zl.out zl'.out hsame.out
            simp [sameShf, this, EI.out])
          clear hsame
          go_wp2_with fail
          go_ret
          exact ⟨ret_bool S.out.symm, below_app b0.out hb b0.out.size⟩
set_option maxRecDepth 100000 in
set_option maxHeartbeats 4000000 in
theorem implSameDoc (s t : Doc) (eA : Option Addr) (eN eC : Nat) (eA' : Option Addr) (eN' eC' : Nat) (w : World)
    (hi : RS w 2 eA eN (s.ents.flatMap enCell)) (hi' : RS w 2 eA' eN' (t.ents.flatMap enCell)) (h1 : eN ≤ 9223372036854775807) (h3 : eN' ≤ 9223372036854775807) :
    Calls Try.prog 38 #[.agg #[.int .i64 s.num, .int .i64 s.day, .slice eA eN eC], .agg #[.int .i64 t.num, .int .i64 t.day, .slice eA' eN' eC']] w fun e w' => e = .returned (.bool (sameDoc s t)) ∧ Below w.heap.size w w' := by
  obtain ⟨num, day, ents⟩ := s
  obtain ⟨num', day', ents'⟩ := t
  simp only at hi hi'
  have zi := Lib.hid (hi.flatLen enCell_len (by omega)); have zi' := Lib.hid (hi'.flatLen enCell_len (by omega))
  have b0 := Lib.hid (below_then (below_box w (Obj.cells #[.int .i64 num, .int .i64 day, .slice eA eN eC] 64)) (below_box _ (Obj.cells #[.int .i64 num', .int .i64 day', .slice eA' eN' eC'] 64)))
  have W : (num = num' ∧ day = day' ∧ eN = eN') ∨ (sameDoc ⟨num, day, ents⟩ ⟨num', day', ents'⟩ = false ∧ (¬ num = num' ∨ (num = num' ∧ ¬ day = day') ∨ (num = num' ∧ day = day' ∧ ¬ (eN : Int) = eN'))) := by
    by_cases q1 : num = num'
    · by_cases q2 : day = day'
      · by_cases q3 : eN = eN'
        · exact .inl ⟨q1, q2, q3⟩
        · refine .inr ⟨?_, .inr (.inr ⟨q1, q2, by omega⟩)⟩
          have : ents ≠ ents' := fun h => q3 (by rw [← zi.out, ← zi'.out, h])
          simp [sameDoc, this]
      · exact .inr ⟨by simp [sameDoc, q2], .inr (.inl ⟨q1, q2⟩)⟩
    · exact .inr ⟨by simp [sameDoc, q1], .inl q1⟩
  rcases W with ⟨rfl, rfl, rfl⟩ | ⟨S, W⟩
  case inr =>
    have S := Lib.hid S
    rcases W with n1 | ⟨rfl, n1⟩ | ⟨rfl, rfl, n1⟩
    all_goals
      go_enter Try.func38, Try.ntmps38
      go_wp2_with fail
      go_ret
      exact ⟨ret_bool S.out.symm, b0.out⟩
  have X := Lib.hid (blk_alloc (blk_new1 w (Obj.cells #[.int .i64 num, .int .i64 day, .slice eA eN eC] 64)) (Obj.cells #[.int .i64 num, .int .i64 day, .slice eA' eN eC'] 64))
  have Y := Lib.hid (blk_new2 w (Obj.cells #[.int .i64 num, .int .i64 day, .slice eA eN eC] 64) (Obj.cells #[.int .i64 num, .int .i64 day, .slice eA' eN eC'] 64))
  have hi := hi.below b0.out; have hi' := hi'.below b0.out
  go_enter Try.func38, Try.ntmps38
  go_wp2_with fail
  generalize hwo : (w.alloc (Obj.cells #[.int .i64 num, .int .i64 day, .slice eA eN eC] 64)).alloc (Obj.cells #[.int .i64 num, .int .i64 day, .slice eA' eN eC'] 64) = wo at *
  clear hwo
  go_loopw [30] (fun i wr => ∃ k : Nat, k ≤ eN ∧ i = .int .i64 k ∧ Below wo.heap.size wo wr ∧ Hid (∀ j, j < k → ents[j]? = ents'[j]?)) (fun i _ => eN - (intOf i).toNat)
  case atStart => exact ⟨0, Nat.zero_le _, rfl, Below.refl _ _, fun _ h => absurd h (Nat.not_lt_zero _)⟩
  case round =>
    obtain ⟨k, hk, rfl, hb, hsame⟩ := hrel
    have x1 := blk_at (blk_keep hb X.out) (j := 2) rfl
    have y1 := blk_at (blk_keep hb Y.out) (j := 2) rfl
    by_cases hlt : k < eN
    · obtain ⟨g, off, rfl, ⟨ac, amt⟩, hx, hq, hv⟩ := (hi.below hb).enAt hlt
      obtain ⟨g', off', rfl, ⟨ac', amt'⟩, hx', hq', hv'⟩ := (hi'.below hb).enAt hlt
      simp only at hq hv hq' hv'
      have HX := Lib.hid hx; clear hx
      have HX' := Lib.hid hx'; clear hx'
      have i1 : (0 : Int) ≤ k := by omega
      have i2 : (k : Int) < eN := by omega
      rcases en_waysS ac amt ac' amt' with ⟨rfl, rfl⟩ | ⟨hne, W⟩
      · go_wp2_with fail
        go_quiet (fail)
        go_wp2_with fail
        go_roundw
        case rel =>
          refine ⟨k + 1, by omega, by go_num, below_drewN hb _, fun j hj => ?_⟩
          rcases Nat.lt_succ_iff_lt_or_eq.1 hj with h' | rfl
          · exact hsame.out j h'
          · rw [HX.out, HX'.out]
        case measure => simp [intOf]; omega
      · have S := Lib.hid (show sameDoc ⟨num, day, ents⟩ ⟨num, day, ents'⟩ = false by
          have : ents ≠ ents' := fun h => hne (Option.some.inj (HX.out.symm.trans ((congrArg (·[k]?) h).trans HX'.out)))
          simp [sameDoc, this])
        clear hne
        rcases W with ⟨rfl, n1⟩ | n1
        all_goals
          go_wp2_with fail
          go_quiet (fail)
          go_wp2_with fail
          go_ret
          exact ⟨ret_bool S.out.symm, below_app b0.out (below_drewN hb _) b0.out.size⟩
    · obtain rfl : eN = k := by omega
      have S := Lib.hid (show sameDoc ⟨num, day, ents⟩ ⟨num, day, ents'⟩ = true by
        have : ents = ents' := ext_upto zi.out zi'.out hsame.out
        simp [sameDoc, this])
      clear hsame
      go_wp2_with fail
      go_ret
      exact ⟨ret_bool S.out.symm, below_app b0.out hb b0.out.size⟩
set_option maxRecDepth 100000 in
set_option maxHeartbeats 4000000 in
theorem implSameBooks (sA : Option Addr) (sn sc : Nat) (k : Int) (dA : Option Addr) (dn dc : Nat) (ss : List Shf) (ds : List Doc) (sA' : Option Addr) (sn' sc' : Nat) (k' : Int) (dA' : Option Addr) (dn' dc' : Nat) (ss' : List Shf) (ds' : List Doc) (w : World)
    (hr : ShelvesR w sA sn ss) (hd : DocsR w dA dn ds) (hr' : ShelvesR w sA' sn' ss') (hd' : DocsR w dA' dn' ds') (h1 : sn ≤ 1048600) (h2 : dn ≤ 1048600) (h3 : sn' ≤ 1048600) (h4 : dn' ≤ 1048600)
    (hok : ∀ s ∈ ss, shOk s) (hok' : ∀ s ∈ ss', shOk s) (hok2 : ∀ d ∈ ds, d.ents.length ≤ 1048600) (hok2' : ∀ d ∈ ds', d.ents.length ≤ 1048600) :
    Calls Try.prog 13 #[.agg #[.slice sA sn sc, .int .i64 k, .slice dA dn dc], .agg #[.slice sA' sn' sc', .int .i64 k', .slice dA' dn' dc']] w fun e w' => e = .returned (.bool (sameBk ss ss' k k' ds ds')) ∧ Below w.heap.size w w' := by
  have zi := Lib.hid hr.len; have zi' := Lib.hid hr'.len; have zl := Lib.hid hd.len; have zl' := Lib.hid hd'.len
  have OK := Lib.hid hok; have OK' := Lib.hid hok'; have OK2 := Lib.hid hok2; have OK2' := Lib.hid hok2'
  clear hok hok' hok2 hok2'
  have b0 := Lib.hid (below_then (below_box w (Obj.cells #[.slice sA sn sc, .int .i64 k, .slice dA dn dc] 31)) (below_box _ (Obj.cells #[.slice sA' sn' sc', .int .i64 k', .slice dA' dn' dc'] 31)))
  have W : (k = k' ∧ sn = sn' ∧ dn = dn') ∨ (sameBk ss ss' k k' ds ds' = false ∧ (¬ k = k' ∨ (k = k' ∧ ¬ (sn : Int) = sn') ∨ (k = k' ∧ sn = sn' ∧ ¬ (dn : Int) = dn'))) := by
    by_cases q1 : k = k'
    · by_cases q2 : sn = sn'
      · by_cases q3 : dn = dn'
        · exact .inl ⟨q1, q2, q3⟩
        · refine .inr ⟨?_, .inr (.inr ⟨q1, q2, by omega⟩)⟩
          have : ds ≠ ds' := fun h => q3 (by rw [← zl.out, ← zl'.out, h])
          simp [sameBk, this]
      · refine .inr ⟨?_, .inr (.inl ⟨q1, by omega⟩)⟩
        have : ss ≠ ss' := fun h => q2 (by rw [← zi.out, ← zi'.out, h])
        simp [sameBk, this]
    · exact .inr ⟨by simp [sameBk, q1], .inl q1⟩
  rcases W with ⟨rfl, rfl, rfl⟩ | ⟨S, W⟩
  case inr =>
    have S := Lib.hid S
    rcases W with n1 | ⟨rfl, n1⟩ | ⟨rfl, rfl, n1⟩
    all_goals
      go_enter Try.func13, Try.ntmps13
      go_wp2_with fail
      go_ret
      exact ⟨ret_bool S.out.symm, b0.out⟩
  have X := Lib.hid (blk_alloc (blk_new1 w (Obj.cells #[.slice sA sn sc, .int .i64 k, .slice dA dn dc] 31)) (Obj.cells #[.slice sA' sn sc', .int .i64 k, .slice dA' dn dc'] 31))
  have Y := Lib.hid (blk_new2 w (Obj.cells #[.slice sA sn sc, .int .i64 k, .slice dA dn dc] 31) (Obj.cells #[.slice sA' sn sc', .int .i64 k, .slice dA' dn dc'] 31))
  have hr := hr.below b0.out; have hr' := hr'.below b0.out; have hd := hd.below b0.out; have hd' := hd'.below b0.out
  go_enter Try.func13, Try.ntmps13
  go_wp2_with fail
  generalize hwo : (w.alloc (Obj.cells #[.slice sA sn sc, .int .i64 k, .slice dA dn dc] 31)).alloc (Obj.cells #[.slice sA' sn sc', .int .i64 k, .slice dA' dn dc'] 31) = wo at *
  clear hwo
  go_loopw [33] (fun i wr => ∃ j : Nat, j ≤ sn ∧ i = .int .i64 j ∧ Below wo.heap.size wo wr ∧ Hid (∀ i, i < j → ss[i]? = ss'[i]?)) (fun i _ => sn - (intOf i).toNat)
  case atStart => exact ⟨0, Nat.zero_le _, rfl, Below.refl _ _, fun _ h => absurd h (Nat.not_lt_zero _)⟩
  case round =>
    obtain ⟨j, hj, rfl, hb, hsame⟩ := hrel
    have x1 := blk_at (blk_keep hb X.out) (j := 0) rfl
    have y1 := blk_at (blk_keep hb Y.out) (j := 0) rfl
    by_cases hlt : j < sn
    · obtain ⟨g, off, rfl, x, iA, iN, iC, lA, lN, lC, hx, c0, c1, c2, hre, hrf⟩ := (hr.below hb).shAt hlt
      obtain ⟨g', off', rfl, x', iA', iN', iC', lA', lN', lC', hx', k0, k1, k2, hre', hrf'⟩ := (hr'.below hb).shAt hlt
      obtain ⟨_, o1, o2⟩ := OK.out x (List.mem_of_getElem? hx)
      obtain ⟨_, o3, o4⟩ := OK'.out x' (List.mem_of_getElem? hx')
      have HX := Lib.hid hx; clear hx
      have HX' := Lib.hid hx'; clear hx'
      have z1 := hre.ints; have z2 := hre'.ints; have z3 := hrf.lay; have z4 := hrf'.lay
      have n1 : iN ≤ 9223372036854775807 := by omega
      have n2 : iN' ≤ 9223372036854775807 := by omega
      have n3 : lN ≤ 9223372036854775807 := by omega
      have n4 : lN' ≤ 9223372036854775807 := by omega
      have i1 : (0 : Int) ≤ j := by omega
      have i2 : (j : Int) < sn := by omega
      clear z1 z2 z3 z4
      by_cases hxx : x = x'
      · have HS := (sameShf_eq x x').trans (decide_eq_true hxx)
        have HXX := Lib.hid hxx; clear hxx
        go_wp2_with fail
        have x1 := cell_wext x1; have y1 := cell_wext y1
        have a0 := cell_wext c0; have a1 := cell_wext c1; have a2 := cell_wext c2; have b0' := cell_wext k0; have b1 := cell_wext k1; have b2 := cell_wext k2
        refine wp_region_ext (by kernel_rfl) (by kernel_rfl) ?_
        repeat (go_big_quiet_step ((go_at_call 37; exact ext_call (implSameShelf x x' _ _ _ _ _ _ _ _ _ _ _ _ _ (hre.wext _) (hrf.wext _) (hre'.wext _) (hrf'.wext _) n1 n3 n2 n4))))
        refine wpQuiet_nil ?_
        intro _ hw'; obtain ⟨nq, hw''⟩ := hw'; subst hw''
        go_wp2_with fail
        go_roundw
        case rel =>
          refine ⟨j + 1, by omega, by go_num, below_app hb (below_wext _ _) hb.size, fun i hi => ?_⟩
          rcases Nat.lt_succ_iff_lt_or_eq.1 hi with h' | rfl
          · exact hsame.out i h'
          · rw [HX.out, HX'.out, HXX.out]
        case measure => simp [intOf]; omega
      · have HS := (sameShf_eq x x').trans (decide_eq_false hxx)
        have S := Lib.hid (show sameBk ss ss' k k ds ds' = false by
          have : ss ≠ ss' := fun h => hxx (Option.some.inj (HX.out.symm.trans ((congrArg (·[j]?) h).trans HX'.out)))
          simp [sameBk, this])
        clear hxx
        go_wp2_with fail
        have x1 := cell_wext x1; have y1 := cell_wext y1
        have a0 := cell_wext c0; have a1 := cell_wext c1; have a2 := cell_wext c2; have b0' := cell_wext k0; have b1 := cell_wext k1; have b2 := cell_wext k2
        refine wp_region_ext (by kernel_rfl) (by kernel_rfl) ?_
        repeat (go_big_quiet_step ((go_at_call 37; exact ext_call (implSameShelf x x' _ _ _ _ _ _ _ _ _ _ _ _ _ (hre.wext _) (hrf.wext _) (hre'.wext _) (hrf'.wext _) n1 n3 n2 n4))))
        refine wpQuiet_nil ?_
        intro _ hw'; obtain ⟨nq, hw''⟩ := hw'; subst hw''
        go_wp2_with fail
        go_ret
        exact ⟨ret_bool S.out.symm, below_app b0.out (below_app hb (below_wext _ _) hb.size) b0.out.size⟩
    · obtain rfl : sn = j := by omega
      have EI := Lib.hid (show ss = ss' from ext_upto zi.out zi'.out hsame.out)
      clear hsame x1 y1
      have x2 := blk_at (blk_keep hb X.out) (j := 2) rfl
      obtain ⟨wz, hwz⟩ : ∃ x : World, x = wr := ⟨_, rfl⟩
      subst hwz
      go_wp2_with fail
      go_loopw [52] (fun i wr => ∃ j : Nat, j ≤ dn ∧ i = .int .i64 j ∧ Below wo.heap.size wo wr ∧ Hid (∀ i, i < j → ds[i]? = ds'[i]?)) (fun i _ => dn - (intOf i).toNat)
      case atStart => exact ⟨0, Nat.zero_le _, rfl, hb, fun _ h => absurd h (Nat.not_lt_zero _)⟩
      case round =>
        clear x2 hb
        obtain ⟨j, hj, rfl, hb, hsame⟩ := hrel
        have x1 := blk_at (blk_keep hb X.out) (j := 2) rfl
        have y1 := blk_at (blk_keep hb Y.out) (j := 2) rfl
        by_cases hlt : j < dn
        · obtain ⟨g, off, rfl, x, eA, en, ec, hx, c0, c1, c2, hre⟩ := (hd.below hb).docAt hlt
          obtain ⟨g', off', rfl, x', eA', en', ec', hx', k0, k1, k2, hre'⟩ := (hd'.below hb).docAt hlt
          have o1 := OK2.out x (List.mem_of_getElem? hx)
          have o3 := OK2'.out x' (List.mem_of_getElem? hx')
          have HX := Lib.hid hx; clear hx
          have HX' := Lib.hid hx'; clear hx'
          have z1 := hre.flatLen enCell_len (by omega)
          have z2 := hre'.flatLen enCell_len (by omega)
          have n1 : en ≤ 9223372036854775807 := by omega
          have n2 : en' ≤ 9223372036854775807 := by omega
          have i1 : (0 : Int) ≤ j := by omega
          have i2 : (j : Int) < dn := by omega
          clear z1 z2 o1 o3
          by_cases hxx : x = x'
          · have HS := (sameDoc_eq x x').trans (decide_eq_true hxx)
            have HXX := Lib.hid hxx; clear hxx
            go_wp2_with fail
            have x1 := cell_wext x1; have y1 := cell_wext y1
            have a0 := cell_wext c0; have a1 := cell_wext c1; have a2 := cell_wext c2; have b0' := cell_wext k0; have b1 := cell_wext k1; have b2 := cell_wext k2
            refine wp_region_ext (by kernel_rfl) (by kernel_rfl) ?_
            repeat (go_big_quiet_step ((go_at_call 38; exact ext_call (implSameDoc x x' _ _ _ _ _ _ _ (hre.wext _) (hre'.wext _) n1 n2))))
            refine wpQuiet_nil ?_
            intro _ hw'; obtain ⟨nq, hw''⟩ := hw'; subst hw''
            go_wp2_with fail
            go_roundw
            case rel =>
              refine ⟨j + 1, by omega, by go_num, below_app hb (below_wext _ _) hb.size, fun i hi => ?_⟩
              rcases Nat.lt_succ_iff_lt_or_eq.1 hi with h' | rfl
              · exact hsame.out i h'
              · rw [HX.out, HX'.out, HXX.out]
            case measure => simp [intOf]; omega
          · have HS := (sameDoc_eq x x').trans (decide_eq_false hxx)
            have S := Lib.hid (show sameBk ss ss' k k ds ds' = false by
              have : ds ≠ ds' := fun h => hxx (Option.some.inj (HX.out.symm.trans ((congrArg (·[j]?) h).trans HX'.out)))
              simp [sameBk, this])
            clear hxx
            go_wp2_with fail
            have x1 := cell_wext x1; have y1 := cell_wext y1
            have a0 := cell_wext c0; have a1 := cell_wext c1; have a2 := cell_wext c2; have b0' := cell_wext k0; have b1 := cell_wext k1; have b2 := cell_wext k2
            refine wp_region_ext (by kernel_rfl) (by kernel_rfl) ?_
            repeat (go_big_quiet_step ((go_at_call 38; exact ext_call (implSameDoc x x' _ _ _ _ _ _ _ (hre.wext _) (hre'.wext _) n1 n2))))
            refine wpQuiet_nil ?_
            intro _ hw'; obtain ⟨nq, hw''⟩ := hw'; subst hw''
            go_wp2_with fail
            go_ret
            exact ⟨ret_bool S.out.symm, below_app b0.out (below_app hb (below_wext _ _) hb.size) b0.out.size⟩
        · obtain rfl : dn = j := by omega
          have S := Lib.hid (show sameBk ss ss' k k ds ds' = true by
            have : ds = ds' := ext_upto zl.out zl'.out hsame.out
            simp [sameBk, this, EI.out])
          clear hsame
          go_wp2_with fail
          go_ret
          exact ⟨ret_bool S.out.symm, below_app b0.out hb b0.out.size⟩
theorem shf_ways (s t : Shf) {iN iN' lN lN' : Nat} (h1 : s.ids.length = iN) (h2 : t.ids.length = iN') (h3 : s.lays.length = lN) (h4 : t.lays.length = lN') :
    (s.item = t.item ∧ iN = iN' ∧ lN = lN') ∨ (s ≠ t ∧ (¬ s.item.toList = t.item.toList ∨ (s.item = t.item ∧ ¬ (iN : Int) = iN') ∨ (s.item = t.item ∧ iN = iN' ∧ ¬ (lN : Int) = lN'))) := by
  by_cases q1 : s.item = t.item
  · by_cases q2 : iN = iN'
    · by_cases q3 : lN = lN'
      · exact .inl ⟨q1, q2, q3⟩
      · exact .inr ⟨fun h => q3 (by rw [← h3, ← h4, h]), .inr (.inr ⟨q1, q2, by omega⟩)⟩
    · exact .inr ⟨fun h => q2 (by rw [← h1, ← h2, h]), .inr (.inl ⟨q1, by omega⟩)⟩
  · exact .inr ⟨fun h => q1 (by rw [h]), .inl (text_ne q1)⟩
theorem doc_ways2 (s t : Doc) {n n' : Nat} (h1 : s.ents.length = n) (h2 : t.ents.length = n') :
    (s.num = t.num ∧ s.day = t.day ∧ n = n') ∨ (s ≠ t ∧ (¬ s.num = t.num ∨ (s.num = t.num ∧ ¬ s.day = t.day) ∨ (s.num = t.num ∧ s.day = t.day ∧ ¬ (n : Int) = n'))) := by
  by_cases q1 : s.num = t.num
  · by_cases q2 : s.day = t.day
    · by_cases q3 : n = n'
      · exact .inl ⟨q1, q2, q3⟩
      · exact .inr ⟨fun h => q3 (by rw [← h1, ← h2, h]), .inr (.inr ⟨q1, q2, by omega⟩)⟩
    · exact .inr ⟨fun h => q2 (by rw [h]), .inr (.inl ⟨q1, q2⟩)⟩
  · exact .inr ⟨fun h => q1 (by rw [h]), .inl q1⟩
theorem bk_neS {ss ss' : List Shf} {ds ds' : List Doc} {k k' : Int} {j : Nat} {x x' : Shf} (h : ss[j]? = some x) (h' : ss'[j]? = some x') (hne : x ≠ x') : sameBk ss ss' k k' ds ds' = false := by
  have : ss ≠ ss' := fun e => hne (Option.some.inj (h.symm.trans ((congrArg (·[j]?) e).trans h')))
  simp [sameBk, this]
theorem bk_neD {ss ss' : List Shf} {ds ds' : List Doc} {k k' : Int} {j : Nat} {x x' : Doc} (h : ds[j]? = some x) (h' : ds'[j]? = some x') (hne : x ≠ x') : sameBk ss ss' k k' ds ds' = false := by
  have : ds ≠ ds' := fun e => hne (Option.some.inj (h.symm.trans ((congrArg (·[j]?) e).trans h')))
  simp [sameBk, this]
theorem neAt {α : Type} {l m : List α} {j : Nat} {x y : α} (h : l[j]? = some x) (h' : m[j]? = some y) (hne : x ≠ y) : l ≠ m := fun e => hne (Option.some.inj (h.symm.trans ((congrArg (·[j]?) e).trans h')))
set_option maxRecDepth 100000 in
set_option maxHeartbeats 8000000 in
theorem specSameBooks (sA : Option Addr) (sn sc : Nat) (k : Int) (dA : Option Addr) (dn dc : Nat) (ss : List Shf) (ds : List Doc) (sA' : Option Addr) (sn' sc' : Nat) (k' : Int) (dA' : Option Addr) (dn' dc' : Nat) (ss' : List Shf) (ds' : List Doc) (w : World)
    (hr : ShelvesR w sA sn ss) (hd : DocsR w dA dn ds) (hr' : ShelvesR w sA' sn' ss') (hd' : DocsR w dA' dn' ds') (h1 : sn ≤ 1048600) (h2 : dn ≤ 1048600) (h3 : sn' ≤ 1048600) (h4 : dn' ≤ 1048600)
    (hok : ∀ s ∈ ss, shOk s) (hok' : ∀ s ∈ ss', shOk s) (hok2 : ∀ d ∈ ds, d.ents.length ≤ 1048600) (hok2' : ∀ d ∈ ds', d.ents.length ≤ 1048600) :
    Calls Try.prog 11 #[.agg #[.slice sA sn sc, .int .i64 k, .slice dA dn dc], .agg #[.slice sA' sn' sc', .int .i64 k', .slice dA' dn' dc']] w fun e w' => e = .returned (.bool (sameBk ss ss' k k' ds ds')) ∧ Below w.heap.size w w' := by
  have zi := Lib.hid hr.len; have zi' := Lib.hid hr'.len; have zl := Lib.hid hd.len; have zl' := Lib.hid hd'.len
  have OK := Lib.hid hok; have OK' := Lib.hid hok'; have OK2 := Lib.hid hok2; have OK2' := Lib.hid hok2'
  clear hok hok' hok2 hok2'
  have b0 := Lib.hid (below_then (below_box w (Obj.cells #[.slice sA sn sc, .int .i64 k, .slice dA dn dc] 31)) (below_box _ (Obj.cells #[.slice sA' sn' sc', .int .i64 k', .slice dA' dn' dc'] 31)))
  have W : (k = k' ∧ sn = sn' ∧ dn = dn') ∨ (sameBk ss ss' k k' ds ds' = false ∧ (¬ (sn : Int) = sn' ∨ (sn = sn' ∧ ¬ k = k') ∨ (k = k' ∧ sn = sn' ∧ ¬ (dn : Int) = dn'))) := by
    by_cases q2 : sn = sn'
    · by_cases q1 : k = k'
      · by_cases q3 : dn = dn'
        · exact .inl ⟨q1, q2, q3⟩
        · refine .inr ⟨?_, .inr (.inr ⟨q1, q2, by omega⟩)⟩
          have : ds ≠ ds' := fun h => q3 (by rw [← zl.out, ← zl'.out, h])
          simp [sameBk, this]
      · exact .inr ⟨by simp [sameBk, q1], .inr (.inl ⟨q2, q1⟩)⟩
    · refine .inr ⟨?_, .inl (by omega)⟩
      have : ss ≠ ss' := fun h => q2 (by rw [← zi.out, ← zi'.out, h])
      simp [sameBk, this]
  rcases W with ⟨rfl, rfl, rfl⟩ | ⟨S, W⟩
  case inr =>
    have S := Lib.hid S
    rcases W with n1 | ⟨rfl, n1⟩ | ⟨rfl, rfl, n1⟩
    all_goals
      go_enter Try.func11, Try.ntmps11
      go_wp2_with fail
      go_ret
      exact ⟨ret_bool S.out.symm, b0.out⟩
  have X := Lib.hid (blk_alloc (blk_new1 w (Obj.cells #[.slice sA sn sc, .int .i64 k, .slice dA dn dc] 31)) (Obj.cells #[.slice sA' sn sc', .int .i64 k, .slice dA' dn dc'] 31))
  have Y := Lib.hid (blk_new2 w (Obj.cells #[.slice sA sn sc, .int .i64 k, .slice dA dn dc] 31) (Obj.cells #[.slice sA' sn sc', .int .i64 k, .slice dA' dn dc'] 31))
  have hr := hr.below b0.out; have hr' := hr'.below b0.out; have hd := hd.below b0.out; have hd' := hd'.below b0.out
  go_enter Try.func11, Try.ntmps11
  go_wp2_with fail
  generalize hwo : (w.alloc (Obj.cells #[.slice sA sn sc, .int .i64 k, .slice dA dn dc] 31)).alloc (Obj.cells #[.slice sA' sn sc', .int .i64 k, .slice dA' dn dc'] 31) = wo at *
  clear hwo
  go_loopw [5] (fun i wr => ∃ j : Nat, j ≤ sn ∧ i = .int .i64 j ∧ Below wo.heap.size wo wr ∧ Hid (∀ i, i < j → ss[i]? = ss'[i]?)) (fun i _ => sn - (intOf i).toNat)
  case atStart => exact ⟨0, Nat.zero_le _, rfl, Below.refl _ _, fun _ h => absurd h (Nat.not_lt_zero _)⟩
  case round =>
    obtain ⟨j, hj, rfl, hb, hsame⟩ := hrel
    obtain ⟨wu, hwu⟩ : ∃ x : World, x = wr := ⟨_, rfl⟩
    subst hwu
    have x1 := blk_at (blk_keep hb X.out) (j := 0) rfl
    have y1 := blk_at (blk_keep hb Y.out) (j := 0) rfl
    have hz := hb.size
    by_cases hlt : j < sn
    · obtain ⟨g, off, rfl, ⟨item, ids, lays⟩, iA, iN, iC, lA, lN, lC, hx, c0, c1, c2, hi, hl⟩ := (hr.below hb).shAt hlt
      obtain ⟨g', off', rfl, ⟨item', ids', lays'⟩, iA', iN', iC', lA', lN', lC', hx', k0, k1, k2, hi', hl'⟩ := (hr'.below hb).shAt hlt
      obtain ⟨_, o1, o2⟩ := OK.out _ (List.mem_of_getElem? hx)
      obtain ⟨_, o3, o4⟩ := OK'.out _ (List.mem_of_getElem? hx')
      have HX := Lib.hid hx; clear hx
      have HX' := Lib.hid hx'; clear hx'
      simp only at c0 c1 c2 hi hl k0 k1 k2 hi' hl' o1 o2 o3 o4
      have si := Lib.hid hi.ints; have si' := Lib.hid hi'.ints; have sl := Lib.hid hl.lay; have sl' := Lib.hid hl'.lay
      have n1 : iN ≤ 9223372036854775807 := by rw [← si.out]; exact o1
      have n2 : iN' ≤ 9223372036854775807 := by rw [← si'.out]; exact o3
      have n3 : lN ≤ 9223372036854775807 := by rw [← sl.out]; exact o2
      have n4 : lN' ≤ 9223372036854775807 := by rw [← sl'.out]; exact o4
      have i1 : (0 : Int) ≤ j := by omega
      have i2 : (j : Int) < sn := by omega
      clear o1 o2 o3 o4
      have ya := cell_alloc y1; have ka0 := cell_alloc k0; have ka1 := cell_alloc k1; have ka2 := cell_alloc k2
      have bu := Lib.hid ((hb.alloc hb.size (Obj.cells #[.string item, .slice iA iN iC, .slice lA lN lC] 59)).alloc (by simp only [World.size_alloc]; omega) (Obj.cells #[.string item', .slice iA' iN' iC', .slice lA' lN' lC'] 59))
      rcases shf_ways ⟨item, ids, lays⟩ ⟨item', ids', lays'⟩ si.out si'.out sl.out sl'.out with ⟨q1, q2, q3⟩ | ⟨hne, W⟩
      · simp only at q1
        subst q1 q2 q3
        have XX := Lib.hid (blk_alloc (blk_new1 wu (Obj.cells #[.string item, .slice iA iN iC, .slice lA lN lC] 59)) (Obj.cells #[.string item, .slice iA' iN iC', .slice lA' lN lC'] 59))
        have YY := Lib.hid (blk_new2 wu (Obj.cells #[.string item, .slice iA iN iC, .slice lA lN lC] 59) (Obj.cells #[.string item, .slice iA' iN iC', .slice lA' lN lC'] 59))
        have hi := (hi.alloc (Obj.cells #[.string item, .slice iA iN iC, .slice lA lN lC] 59)).alloc (Obj.cells #[.string item, .slice iA' iN iC', .slice lA' lN lC'] 59); have hi' := (hi'.alloc (Obj.cells #[.string item, .slice iA iN iC, .slice lA lN lC] 59)).alloc (Obj.cells #[.string item, .slice iA' iN iC', .slice lA' lN lC'] 59)
        have hl := (hl.alloc (Obj.cells #[.string item, .slice iA iN iC, .slice lA lN lC] 59)).alloc (Obj.cells #[.string item, .slice iA' iN iC', .slice lA' lN lC'] 59); have hl' := (hl'.alloc (Obj.cells #[.string item, .slice iA iN iC, .slice lA lN lC] 59)).alloc (Obj.cells #[.string item, .slice iA' iN iC', .slice lA' lN lC'] 59)
        go_wp2_with fail
        generalize hwp : (wu.alloc (Obj.cells #[.string item, .slice iA iN iC, .slice lA lN lC] 59)).alloc (Obj.cells #[.string item, .slice iA' iN iC', .slice lA' lN lC'] 59) = wp at *
        clear hwp
        go_loopw [8] (fun i wr => ∃ m : Nat, m ≤ iN ∧ i = .int .i64 m ∧ Below wp.heap.size wp wr ∧ Hid (∀ i, i < m → ids[i]? = ids'[i]?)) (fun i _ => iN - (intOf i).toNat)
        case atStart => exact ⟨0, Nat.zero_le _, rfl, Below.refl _ _, fun _ h => absurd h (Nat.not_lt_zero _)⟩
        case round =>
          obtain ⟨m, hm, rfl, hp, hsm⟩ := hrel
          have u1 := blk_at (blk_keep hp XX.out) (j := 1) rfl
          have v1 := blk_at (blk_keep hp YY.out) (j := 1) rfl
          by_cases hlt2 : m < iN
          · obtain ⟨g2, off2, rfl, x, hx2, hc⟩ := (hi.below hp).intAt hlt2
            obtain ⟨g2', off2', rfl, x', hx2', hc'⟩ := (hi'.below hp).intAt hlt2
            have HX2 := Lib.hid hx2; clear hx2
            have HX2' := Lib.hid hx2'; clear hx2'
            have m1 : (0 : Int) ≤ m := by omega
            have m2 : (m : Int) < iN := by omega
            by_cases hxx : x = x'
            · subst hxx
              go_wp2_with fail
              go_quiet (fail)
              go_wp2_with fail
              go_roundw
              case rel =>
                refine ⟨m + 1, by omega, by go_num, below_drewN hp _, fun i hi => ?_⟩
                rcases Nat.lt_succ_iff_lt_or_eq.1 hi with h' | rfl
                · exact hsm.out i h'
                · rw [HX2.out, HX2'.out]
              case measure => simp [intOf]; omega
            · have S := Lib.hid (bk_neS (k := k) (k' := k) (ds := ds) (ds' := ds') HX.out HX'.out (fun h => neAt HX2.out HX2'.out hxx (by injection h)))
              go_wp2_with fail
              go_quiet (fail)
              go_wp2_with fail
              go_ret
              exact ⟨ret_bool S.out.symm, below_app b0.out (below_app bu.out (below_drewN hp _) bu.out.size) b0.out.size⟩
          · obtain rfl : iN = m := by omega
            have EI := Lib.hid (show ids = ids' from ext_upto si.out si'.out hsm.out)
            clear hsm
            obtain ⟨wz, hwz⟩ : ∃ x : World, x = wr := ⟨_, rfl⟩
            subst hwz
            go_wp2_with fail
            go_loopw [9] (fun i wr => ∃ m : Nat, m ≤ lN ∧ i = .int .i64 m ∧ Below wp.heap.size wp wr ∧ Hid (∀ i, i < m → lays[i]? = lays'[i]?)) (fun i _ => lN - (intOf i).toNat)
            case atStart => exact ⟨0, Nat.zero_le _, rfl, hp, fun _ h => absurd h (Nat.not_lt_zero _)⟩
            case round =>
              clear u1 v1 hp
              obtain ⟨m, hm, rfl, hp, hsm⟩ := hrel
              have u2 := blk_at (blk_keep hp XX.out) (j := 2) rfl
              have v2 := blk_at (blk_keep hp YY.out) (j := 2) rfl
              by_cases hlt2 : m < lN
              · obtain ⟨g2, off2, rfl, q, v, u, hx2, hq, hv, hu⟩ := (hl.below hp).layAt hlt2
                obtain ⟨g2', off2', rfl, q', v', u', hx2', hq', hv', hu'⟩ := (hl'.below hp).layAt hlt2
                have HX2 := Lib.hid hx2; clear hx2
                have HX2' := Lib.hid hx2'; clear hx2'
                have m1 : (0 : Int) ≤ m := by omega
                have m2 : (m : Int) < lN := by omega
                rcases lay_waysS q v u q' v' u' with ⟨rfl, rfl, rfl⟩ | ⟨hne, W⟩
                · go_wp2_with fail
                  go_quiet (fail)
                  go_wp2_with fail
                  go_roundw
                  case rel =>
                    refine ⟨m + 1, by omega, by go_num, below_drewN hp _, fun i hi => ?_⟩
                    rcases Nat.lt_succ_iff_lt_or_eq.1 hi with h' | rfl
                    · exact hsm.out i h'
                    · rw [HX2.out, HX2'.out]
                  case measure => simp [intOf]; omega
                · have S := Lib.hid (bk_neS (k := k) (k' := k) (ds := ds) (ds' := ds') HX.out HX'.out (fun h => neAt HX2.out HX2'.out hne (by injection h)))
                  clear hne
                  rcases W with ⟨rfl, rfl, r1⟩ | ⟨rfl, r1⟩ | r1
                  all_goals
                    go_wp2_with fail
                    go_quiet (fail)
                    go_wp2_with fail
                    go_ret
                    exact ⟨ret_bool S.out.symm, below_app b0.out (below_app bu.out (below_drewN hp _) bu.out.size) b0.out.size⟩
              · obtain rfl : lN = m := by omega
                have EL := Lib.hid (show lays = lays' from ext_upto sl.out sl'.out hsm.out)
                clear hsm
                go_wp2_with fail
                go_roundw
                case rel =>
                  refine ⟨j + 1, by omega, by go_num, below_app bu.out hp bu.out.size, fun i hi => ?_⟩
                  rcases Nat.lt_succ_iff_lt_or_eq.1 hi with h' | rfl
                  · exact hsame.out i h'
                  · rw [HX.out, HX'.out, EI.out, EL.out]
                case measure => simp [intOf]; omega
      · have S := Lib.hid (bk_neS (k := k) (k' := k) (ds := ds) (ds' := ds') HX.out HX'.out hne)
        clear hne
        simp only at W
        rcases W with r1 | ⟨rfl, r1⟩ | ⟨rfl, rfl, r1⟩
        all_goals
          go_wp2_with fail
          go_ret
          exact ⟨ret_bool S.out.symm, below_app b0.out bu.out b0.out.size⟩
    · obtain rfl : sn = j := by omega
      have EI := Lib.hid (show ss = ss' from ext_upto zi.out zi'.out hsame.out)
      clear hsame
      go_wp2_with fail
      go_loopw [10] (fun i wr => ∃ j : Nat, j ≤ dn ∧ i = .int .i64 j ∧ Below wo.heap.size wo wr ∧ Hid (∀ i, i < j → ds[i]? = ds'[i]?)) (fun i _ => dn - (intOf i).toNat)
      case atStart => exact ⟨0, Nat.zero_le _, rfl, hb, fun _ h => absurd h (Nat.not_lt_zero _)⟩
      case round =>
        clear x1 y1 hb hz
        obtain ⟨j, hj, rfl, hb, hsame⟩ := hrel
        obtain ⟨wv, hwv⟩ : ∃ x : World, x = wr := ⟨_, rfl⟩
        subst hwv
        have x1 := blk_at (blk_keep hb X.out) (j := 2) rfl
        have y1 := blk_at (blk_keep hb Y.out) (j := 2) rfl
        have hz := hb.size
        by_cases hlt : j < dn
        · obtain ⟨g, off, rfl, ⟨num, day, ents⟩, eA, en, ec, hx, c0, c1, c2, hi⟩ := (hd.below hb).docAt hlt
          obtain ⟨g', off', rfl, ⟨num', day', ents'⟩, eA', en', ec', hx', k0, k1, k2, hi'⟩ := (hd'.below hb).docAt hlt
          have o1 := OK2.out _ (List.mem_of_getElem? hx)
          have o3 := OK2'.out _ (List.mem_of_getElem? hx')
          have HX := Lib.hid hx; clear hx
          have HX' := Lib.hid hx'; clear hx'
          simp only at c0 c1 c2 hi k0 k1 k2 hi' o1 o3
          have si := Lib.hid (hi.flatLen enCell_len (by omega)); have si' := Lib.hid (hi'.flatLen enCell_len (by omega))
          have n1 : en ≤ 9223372036854775807 := by rw [← si.out]; omega
          have n2 : en' ≤ 9223372036854775807 := by rw [← si'.out]; omega
          have i1 : (0 : Int) ≤ j := by omega
          have i2 : (j : Int) < dn := by omega
          clear o1 o3
          have ya := cell_alloc y1; have ka0 := cell_alloc k0; have ka1 := cell_alloc k1; have ka2 := cell_alloc k2
          have bu := Lib.hid ((hb.alloc hb.size (Obj.cells #[.int .i64 num, .int .i64 day, .slice eA en ec] 64)).alloc (by simp only [World.size_alloc]; omega) (Obj.cells #[.int .i64 num', .int .i64 day', .slice eA' en' ec'] 64))
          rcases doc_ways2 ⟨num, day, ents⟩ ⟨num', day', ents'⟩ si.out si'.out with ⟨q1, q2, q3⟩ | ⟨hne, W⟩
          · simp only at q1 q2
            subst q1 q2 q3
            have XX := Lib.hid (blk_alloc (blk_new1 wv (Obj.cells #[.int .i64 num, .int .i64 day, .slice eA en ec] 64)) (Obj.cells #[.int .i64 num, .int .i64 day, .slice eA' en ec'] 64))
            have YY := Lib.hid (blk_new2 wv (Obj.cells #[.int .i64 num, .int .i64 day, .slice eA en ec] 64) (Obj.cells #[.int .i64 num, .int .i64 day, .slice eA' en ec'] 64))
            have hi := (hi.alloc (Obj.cells #[.int .i64 num, .int .i64 day, .slice eA en ec] 64)).alloc (Obj.cells #[.int .i64 num, .int .i64 day, .slice eA' en ec'] 64); have hi' := (hi'.alloc (Obj.cells #[.int .i64 num, .int .i64 day, .slice eA en ec] 64)).alloc (Obj.cells #[.int .i64 num, .int .i64 day, .slice eA' en ec'] 64)
            go_wp2_with fail
            generalize hwp : (wv.alloc (Obj.cells #[.int .i64 num, .int .i64 day, .slice eA en ec] 64)).alloc (Obj.cells #[.int .i64 num, .int .i64 day, .slice eA' en ec'] 64) = wp at *
            clear hwp
            go_loopw [13] (fun i wr => ∃ m : Nat, m ≤ en ∧ i = .int .i64 m ∧ Below wp.heap.size wp wr ∧ Hid (∀ i, i < m → ents[i]? = ents'[i]?)) (fun i _ => en - (intOf i).toNat)
            case atStart => exact ⟨0, Nat.zero_le _, rfl, Below.refl _ _, fun _ h => absurd h (Nat.not_lt_zero _)⟩
            case round =>
              obtain ⟨m, hm, rfl, hp, hsm⟩ := hrel
              have u2 := blk_at (blk_keep hp XX.out) (j := 2) rfl
              have v2 := blk_at (blk_keep hp YY.out) (j := 2) rfl
              by_cases hlt2 : m < en
              · obtain ⟨g2, off2, rfl, ⟨ac, amt⟩, hx2, hq, hv⟩ := (hi.below hp).enAt hlt2
                obtain ⟨g2', off2', rfl, ⟨ac', amt'⟩, hx2', hq', hv'⟩ := (hi'.below hp).enAt hlt2
                simp only at hq hv hq' hv'
                have HX2 := Lib.hid hx2; clear hx2
                have HX2' := Lib.hid hx2'; clear hx2'
                have m1 : (0 : Int) ≤ m := by omega
                have m2 : (m : Int) < en := by omega
                rcases en_waysS ac amt ac' amt' with ⟨rfl, rfl⟩ | ⟨hne, W⟩
                · go_wp2_with fail
                  go_quiet (fail)
                  go_wp2_with fail
                  go_roundw
                  case rel =>
                    refine ⟨m + 1, by omega, by go_num, below_drewN hp _, fun i hi => ?_⟩
                    rcases Nat.lt_succ_iff_lt_or_eq.1 hi with h' | rfl
                    · exact hsm.out i h'
                    · rw [HX2.out, HX2'.out]
                  case measure => simp [intOf]; omega
                · have S := Lib.hid (bk_neD (ss := ss) (ss' := ss') (k := k) (k' := k) HX.out HX'.out (fun h => neAt HX2.out HX2'.out hne (by injection h)))
                  clear hne
                  rcases W with ⟨rfl, r1⟩ | r1
                  all_goals
                    go_wp2_with fail
                    go_quiet (fail)
                    go_wp2_with fail
                    go_ret
                    exact ⟨ret_bool S.out.symm, below_app b0.out (below_app bu.out (below_drewN hp _) bu.out.size) b0.out.size⟩
              · obtain rfl : en = m := by omega
                have EL := Lib.hid (show ents = ents' from ext_upto si.out si'.out hsm.out)
                clear hsm
                go_wp2_with fail
                go_roundw
                case rel =>
                  refine ⟨j + 1, by omega, by go_num, below_app bu.out hp bu.out.size, fun i hi => ?_⟩
                  rcases Nat.lt_succ_iff_lt_or_eq.1 hi with h' | rfl
                  · exact hsame.out i h'
                  · rw [HX.out, HX'.out, EL.out]
                case measure => simp [intOf]; omega
          · have S := Lib.hid (bk_neD (ss := ss) (ss' := ss') (k := k) (k' := k) HX.out HX'.out hne)
            clear hne
            simp only at W
            rcases W with r1 | ⟨rfl, r1⟩ | ⟨rfl, rfl, r1⟩
            all_goals
              go_wp2_with fail
              go_ret
              exact ⟨ret_bool S.out.symm, below_app b0.out bu.out b0.out.size⟩
        · obtain rfl : dn = j := by omega
          have S := Lib.hid (show sameBk ss ss' k k ds ds' = true by
            have : ds = ds' := ext_upto zl.out zl'.out hsame.out
            simp [sameBk, this, EI.out])
          clear hsame
          go_wp2_with fail
          go_ret
          exact ⟨ret_bool S.out.symm, below_app b0.out hb b0.out.size⟩
end Go.Proofs.Ytlgodbjbllpipaa
namespace Go.Proofs.Ytlgodbjbllpipaa
open Go.ChangeShapes Go.WideShapes Go.ChangeAt Go.RowKit Go.Deep

theorem byteOpen : FlatAs Try.prog 5 (fun b : Int => [.int .u8 b]) (fun b => 0 ≤ b ∧ b < 256) := by
  intro H enc w base spare held n cs x h
  obtain ⟨b, rfl, _, w0⟩ := DataW.trod_int Try.underlying5 h
  refine ⟨b, rfl, ?_⟩
  have m0 : IntKind.u8.min = 0 := rfl
  have m1 : IntKind.u8.max = 255 := rfl
  simp [Lit.wf, m0, m1] at w0
  omega
theorem bytes_flat (l : List Int) : l.flatMap (fun b : Int => [Value.int .u8 b]) = byteCells l := by
  induction l with
  | nil => rfl
  | cons x l ih => rw [List.flatMap_cons, ih]; rfl
set_option maxRecDepth 100000 in
theorem open_bytes {H : Type} {enc : TypeId × Value → H} {w : World} {base : Nat} {spare : Nat → Bool} {held : Bool} {r : Reach} {b0 : Nat} {v : Value} {d : DataW H} {p : List MemPlace}
    (hv : Value.okWide Try.prog w r b0 48 v) (h : DataW.Trod enc Try.prog w base spare held 48 v d p) :
    ∃ (A : Option Addr) (n c : Nat) (l : List Int), v = .slice A n c ∧ RS w 1 A n (byteCells l) ∧ n ≤ 9223372036854775807 ∧ ∀ y ∈ l, 0 ≤ y ∧ y < 256 := by
  obtain ⟨a0, len, cap, rfl⟩ := okWide_slice Try.underlying48 hv
  obtain ⟨fuel, hf⟩ := h
  obtain ⟨A, n, c, l, hv, hr, hl, hn, hc, hok⟩ := open_flat (f := fun b : Int => [.int .u8 b]) Try.underlying48 (by kernel_rfl : Try.prog.cellsOf 5 = 1) (by omega) (fun _ => rfl) byteOpen (by simpa [Value.cells] using hf)
  refine ⟨A, n, c, l, hv, ?_, by unfold maxLen at hc; omega, hok⟩
  rwa [bytes_flat] at hr

theorem big_any (A : Option Addr) (n c : Nat) (w : World) (hn : n ≤ 9223372036854775807) :
    Calls Try.prog 29 #[.slice A n c] w fun e w' => e = .returned (.bool (decide (1048576 < n))) ∧ w = w' := by
  go_enter Try.func29, Try.ntmps29
  go_wp2
  go_ret
  exact ⟨ret_bool (by simp; omega), rfl⟩
end Go.Proofs.Ytlgodbjbllpipaa
namespace Go.Proofs.Ytlgodbjbllpipaa.fnBooked
open Go.ChangeShapes Go.WideShapes Go.ChangeAt Go.RowKit

theorem blk_set7_ne {w : World} {r k : Nat} (h : k ≠ r) (u0 u1 u2 u3 u4 u5 u6 : Value) : (((((((w.setCell ⟨r, 0, none⟩ u0).setCell ⟨r, 1, none⟩ u1).setCell ⟨r, 2, none⟩ u2).setCell ⟨r, 3, none⟩ u3).setCell ⟨r, 4, none⟩ u4).setCell ⟨r, 5, none⟩ u5).setCell ⟨r, 6, none⟩ u6).heap[k]? = w.heap[k]? := by
  have hk : ∀ (W : World) (j : Nat) (u : Value), (W.setCell ⟨r, j, none⟩ u).heap[k]? = W.heap[k]? := fun W j u => Below.heap_setCell W ⟨r, j, none⟩ u k (fun e => h e)
  rw [hk, hk, hk, hk, hk, hk, hk]
theorem books_out10 {w : World} {lo hi n m r q : Nat} {v v' : Value} {ss : List Shf} {ds : List Doc} (h : BooksO w lo hi v n ss v' m ds) (hr : r < lo) (hq : q < lo) (a0 a1 a2 u0 u1 u2 u3 u4 u5 u6 : Value) :
    BooksO ((((((((((w.setCell ⟨r, 0, none⟩ a0).setCell ⟨r, 1, none⟩ a1).setCell ⟨r, 2, none⟩ a2).setCell ⟨q, 0, none⟩ u0).setCell ⟨q, 1, none⟩ u1).setCell ⟨q, 2, none⟩ u2).setCell ⟨q, 3, none⟩ u3).setCell ⟨q, 4, none⟩ u4).setCell ⟨q, 5, none⟩ u5).setCell ⟨q, 6, none⟩ u6) lo hi v n ss v' m ds :=
  (((((((((h.set ⟨r, 0, none⟩ a0 hr).set ⟨r, 1, none⟩ a1 hr).set ⟨r, 2, none⟩ a2 hr).set ⟨q, 0, none⟩ u0 hq).set ⟨q, 1, none⟩ u1 hq).set ⟨q, 2, none⟩ u2 hq).set ⟨q, 3, none⟩ u3 hq).set ⟨q, 4, none⟩ u4 hq).set ⟨q, 5, none⟩ u5 hq).set ⟨q, 6, none⟩ u6 hq
theorem onShelf_bd (ss : List Shf) (k : Int) (ds : List Doc) (s : ByteArray) : 0 ≤ onShelf ss k ds s ∧ onShelf ss k ds s ≤ 2400000 := by
  unfold onShelf
  split
  · split
    · split
      · omega
      · exact leftOf_bd _
    · omega
  · omega
theorem ev_ways {e : Ev} (h : isEvent e = true) : 0 ≤ e.q ∧ e.q ≤ 100000 ∧ ((e.kind = 1 ∧ evQ e = e.q) ∨ (e.kind = 3 ∧ evQ e = e.q) ∨ (e.kind = 2 ∧ evQ e = -e.q) ∨ (e.kind = 4 ∧ evQ e = -e.q) ∨ (e.kind = 5 ∧ evQ e = 0)) := by
  simp only [isEvent, Bool.and_eq_true] at h
  have h := h.2.2.2
  split at h
  · next hk =>
    simp only [Bool.and_eq_true, inB_true] at h
    refine ⟨by omega, by omega, ?_⟩
    rcases hk with hk | hk | hk <;> simp [evQ, hk]
  · split at h
    · next hk =>
      simp only [Bool.and_eq_true, inB_true] at h
      exact ⟨by omega, by omega, by simp [evQ, hk]⟩
    · split at h
      · next hk =>
        simp only [Bool.and_eq_true, beq_iff_eq] at h
        exact ⟨by omega, by omega, by simp [evQ, hk]⟩
      · cases h
theorem grown_bel {w w' : World} {row : Option Nat} (hb : Below w.heap.size w w') : w.grownBy w' row := ⟨hb.os, hb.tape, hb.output, hb.size, fun i hi _ => hb.block i hi⟩
set_option maxRecDepth 100000 in
set_option maxHeartbeats 4000000 in
theorem DrawBookEvent_any (A : Option Addr) (n c : Nat) (bs : List Int) (w : World) (hr : RS w 1 A n (byteCells bs)) (hbs : ∀ b ∈ bs, 0 ≤ b ∧ b < 256) (hn : n ≤ 1048580) :
    Calls Try.prog 30 #[.slice A n c] w fun r w' => ∃ (A : Option Addr) (n c : Nat) (k : Int) (D : Option Addr) (m d : Nat) (ss : List Shf) (ds : List Doc) (e : Ev), r = .returned (.tuple #[.agg #[.slice A n c, .int .i64 k, .slice D m d], evAgg e]) ∧
      ShelvesR w' A n ss ∧ DocsR w' D m ds ∧ bkSm ss ds ∧ evShort e ∧ Below w.heap.size w w' := by
  have b0 := below_then (below_box w (Obj.cells #[.slice none 0 0, .int .i64 0, .slice none 0 0] 31)) (below_box _ (Obj.cells #[.int .i64 0, .int .i64 0, .int .i64 0, .string ⟨#[]⟩, .int .i64 0, .int .i64 0, .int .i64 0] 44))
  have R2 := Lib.hid (blk_alloc (blk_new1 w (Obj.cells #[.slice none 0 0, .int .i64 0, .slice none 0 0] 31)) (Obj.cells #[.int .i64 0, .int .i64 0, .int .i64 0, .string ⟨#[]⟩, .int .i64 0, .int .i64 0, .int .i64 0] 44))
  have R3 := Lib.hid (blk_new2 w (Obj.cells #[.slice none 0 0, .int .i64 0, .slice none 0 0] 31) (Obj.cells #[.int .i64 0, .int .i64 0, .int .i64 0, .string ⟨#[]⟩, .int .i64 0, .int .i64 0, .int .i64 0] 44))
  go_enter Try.func30, Try.ntmps30
  go_wp2_with fail
  refine (l1New_any _ _ _ _ _ (hr.below b0) hbs (by omega)).mono ?_; rintro e w1 ⟨g, rfl, hg1, hb1, hc1⟩
  have hg1 : w.heap.size + 2 ≤ g := by simpa using hg1
  have hlt := hc1.lt
  have R2 := Lib.hid (blk_keep hb1 R2.out); have R3 := Lib.hid (blk_keep hb1 R3.out)
  have B1 := below_then b0 hb1
  clear b0 hb1
  go_wp2_with fail
  refine (l36Books_any g _ hc1).mono ?_; rintro e w2 ⟨A1, n1, c1, k, D, m, d, ss, ds, rfl, O2, SM, hg2, hc2⟩
  have R2 := Lib.hid (blk_grown hg2 R2.out (by omega)); have R3 := Lib.hid (blk_grown hg2 R3.out (by omega))
  have hw1 := hg2.size
  clear hc1
  go_upto_region 3 with fail
  have X := Lib.hid (blk_new1 w2 (Obj.cells #[.slice A1 n1 c1, .int .i64 k, .slice D m d] 31))
  have bU := below_box w2 (Obj.cells #[.slice A1 n1 c1, .int .i64 k, .slice D m d] 31)
  have OU := (O2.below bU).top
  have CU := hc2.below bU
  have GU := grown_below hg2 bU
  have R2 := Lib.hid (blk_alloc R2.out (Obj.cells #[.slice A1 n1 c1, .int .i64 k, .slice D m d] 31)); have R3 := Lib.hid (blk_alloc R3.out (Obj.cells #[.slice A1 n1 c1, .int .i64 k, .slice D m d] 31))
  have zU : w2.heap.size < (w2.alloc (Obj.cells #[.slice A1 n1 c1, .int .i64 k, .slice D m d] 31)).heap.size := by simp
  obtain ⟨x, hx⟩ : ∃ x, x = w2.heap.size := ⟨_, rfl⟩
  obtain ⟨U, hU⟩ : ∃ U, U = w2.alloc (Obj.cells #[.slice A1 n1 c1, .int .i64 k, .slice D m d] 31) := ⟨_, rfl⟩
  rw [← hx] at X zU hw1
  rw [← hU] at X OU CU GU R2 R3 zU
  rw [← hx, ← hU]
  clear hx hU bU O2 hc2 hg2
  have x0 := blk_at X.out (j := 0) rfl; have x1 := blk_at X.out (j := 1) rfl; have x2 := blk_at X.out (j := 2) rfl
  refine wp_region_held_drew (S := fun v => v.cell? ⟨x, 0, none⟩ = some (.slice A1 n1 c1) ∧ v.cell? ⟨x, 1, none⟩ = some (.int .i64 k) ∧ v.cell? ⟨x, 2, none⟩ = some (.slice D m d)) (by kernel_rfl) ⟨x0, x1, x2⟩ (fun hHeld => ?_)
  refine wpAnyH_take (i := 0) (oi := ?_) (v := ?_) (by simp only [List.getElem?_toArray, List.getElem?_cons_zero]; rfl) (by kernel_rfl) (by kernel_rfl) (by kernel_rfl) ?_ (Or.inl ⟨by rfl, ?_⟩) hHeld ?_
  rotate_left 1
  focus exact fun _ _ _ h => h
  focus (intro w hSw; (try dsimp only at hSw); go_simp; try with_reducible rfl)
  (try simp only [Act.put, List.setIfInBounds_toArray, List.set_cons_zero, List.set_cons_succ])
  refine wpAnyH_take (i := 1) (oi := ?_) (v := ?_) (by simp only [List.getElem?_toArray, List.getElem?_cons_succ, List.getElem?_cons_zero]; rfl) (by kernel_rfl) (by kernel_rfl) (by kernel_rfl) ?_ (Or.inl ⟨by rfl, ?_⟩) hHeld ?_
  rotate_left 1
  focus exact fun _ _ _ h => h
  focus (intro w hSw; (try dsimp only at hSw); go_simp; try with_reducible rfl)
  (try simp only [Act.put, List.setIfInBounds_toArray, List.set_cons_zero, List.set_cons_succ])
  refine wpAnyH_ready (rs := [2]) (by kernel_rfl) (by simp) ?_
  refine AllReadyH.cons (o := ?_) (by simp only [List.getElem?_toArray, List.getElem?_cons_succ, List.getElem?_cons_zero]; rfl) (fun K hK => ?_) AllReadyH.nil
  go_simp
  (go_at_call 67; refine (l36Event_any g 20 _ (CU.below (Below.refl _ _).drew) ⟨by omega, by omega⟩).mono ?_; rintro e w3 ⟨ev, rfl, hev, h3, c3⟩)
  go_wp2_with fail
  have G3 : U.grownBy w3 (some g) := (grown_bel ((Below.refl U.heap.size U).drew)).trans h3
  have X3 := Lib.hid (blk_grown G3 X.out (by omega))
  have R2 := Lib.hid (blk_grown G3 R2.out (by omega)); have R3 := Lib.hid (blk_grown G3 R3.out (by omega))
  have O3 := (OU.within (Within.of_grown (lo := g) (hi := g + 1) G3 (fun k hk => by injection hk with hk; omega)) (.inr (by omega))).top
  have BF := below_grown B1 (GU.trans G3) (by omega) B1.size
  obtain ⟨id, day, kind, item, q, a, r⟩ := ev
  clear x0 x1 x2 X h3 c3 OU CU
  have y0 := blk_at R2.out (j := 0) rfl; have y1 := blk_at R2.out (j := 1) rfl; have y2 := blk_at R2.out (j := 2) rfl; have yf := blk_free R2.out
  have z0 := blk_at R3.out (j := 0) rfl; have z1 := blk_at R3.out (j := 1) rfl; have z2 := blk_at R3.out (j := 2) rfl; have z3 := blk_at R3.out (j := 3) rfl; have z4 := blk_at R3.out (j := 4) rfl; have z5 := blk_at R3.out (j := 5) rfl; have z6 := blk_at R3.out (j := 6) rfl; have zf := blk_free R3.out
  have SB : ∀ v : World, v.heap[x]? = some (Obj.cells #[.slice A1 n1 c1, .int .i64 k, .slice D m d] 31 (0, 0)) → v.cell? ⟨x, 0, none⟩ = some (.slice A1 n1 c1) ∧ v.cell? ⟨x, 1, none⟩ = some (.int .i64 k) ∧ v.cell? ⟨x, 2, none⟩ = some (.slice D m d) := fun v h => ⟨blk_at h rfl, blk_at h rfl, blk_at h rfl⟩
  have HSB := Lib.hid SB; have HO := Lib.hid O3; have HB := Lib.hid BF; have HE := Lib.hid hev
  clear SB O3 BF hev
  refine hK.out _ _ ((HSB.out w3 X3.out)) (fun hHeld => ?_)
  clear hK K
  (try simp only [Act.put, List.setIfInBounds_toArray, List.set_cons_zero, List.set_cons_succ])
  refine wpAnyH_ready (rs := [3]) (by kernel_rfl) (by simp) ?_
  refine AllReadyH.cons (o := ?_) (by simp only [List.getElem?_toArray, List.getElem?_cons_succ, List.getElem?_cons_zero]; rfl) (fun K hK => ?_) AllReadyH.nil
  go_simp
  refine hK.out _ _ ((HSB.out _ ((blk_set3_ne (by omega) _ _ _).trans X3.out))) (fun hHeld => ?_)
  clear hK K
  (try simp only [Act.put, List.setIfInBounds_toArray, List.set_cons_zero, List.set_cons_succ])
  refine wpAnyH_ready (rs := [4]) (by kernel_rfl) (by simp) ?_
  refine AllReadyH.cons (o := ?_) (by simp only [List.getElem?_toArray, List.getElem?_cons_succ, List.getElem?_cons_zero]; rfl) (fun K hK => ?_) AllReadyH.nil
  go_simp
  refine hK.out _ _ ((HSB.out _ ((blk_set7_ne (by omega) _ _ _ _ _ _ _).trans ((blk_set3_ne (by omega) _ _ _).trans X3.out)))) (fun hHeld => ?_)
  clear hK K
  (try simp only [Act.put, List.setIfInBounds_toArray, List.set_cons_zero, List.set_cons_succ])
  refine wpAnyH_done (by kernel_rfl) ?_ _
  clear hHeld
  go_wp2_with fail
  refine bodyPost_ret (v := .tuple #[.agg #[.slice A1 n1 c1, .int .i64 k, .slice D m d], evAgg ⟨id, day, kind, item, q, a, r⟩]) (by simp [results, Try.results30, go_sem, y0, y1, y2, z0, z1, z2, z3, z4, z5, z6]) rfl ⟨A1, n1, c1, k, D, m, d, ss, ds, ⟨id, day, kind, item, q, a, r⟩, rfl, ?_, ?_, SM, HE.out, ?_⟩
  · exact (books_out10 HO.out (by omega) (by omega) _ _ _ _ _ _ _ _ _ _).shelves
  · exact (books_out10 HO.out (by omega) (by omega) _ _ _ _ _ _ _ _ _ _).docs
  · repeat (refine Below.setCell ?_ (by simp only; omega) _)
    exact HB.out
set_option maxRecDepth 100000 in
set_option maxHeartbeats 8000000 in
theorem walk (w : World) (A : Option Addr) (n c : Nat) (bs : List Int) (hr : RS w 1 A n (byteCells bs)) (hn : n ≤ 9223372036854775807) (hok : ∀ y ∈ bs, 0 ≤ y ∧ y < 256) :
    Calls Try.prog 9 #[.slice A n c] w fun e w' => e = .returned (.bool true) ∧ Below w.heap.size w w' := by
  by_cases hbig : 1048576 < n
  · go_enter Try.func9, Try.ntmps9
    go_wp2_with (go_at_call 29; refine (big_any _ _ _ _ hn).mono ?_; rw [decide_eq_true hbig]; rintro e w' ⟨rfl, rfl⟩)
    go_ret
    exact ⟨rfl, Below.refl _ _⟩
  · go_enter Try.func9, Try.ntmps9
    go_wp2_with fail
    refine (big_any _ _ _ _ hn).mono ?_; rw [decide_eq_false hbig]; rintro e w' ⟨rfl, rfl⟩
    go_wp2_with fail
    refine (DrawBookEvent_any _ _ _ _ _ hr hok (by omega)).mono ?_; rintro e w1 ⟨A1, n1, c1, k, D1, m1, d1, ss, ds, ev, rfl, hs1, hd1, sm, hev, b1⟩
    have SM := Lib.hid sm
    have hl := Lib.hid hs1.len; have ml := Lib.hid hd1.len
    have hn1 : n1 ≤ 1048600 := by rw [← hl.out]; exact sm.1
    have hm1 : m1 ≤ 1048600 := by rw [← ml.out]; exact sm.2.1
    have hev2 := hev.2
    have HE := Lib.hid hev
    clear sm hev
    obtain ⟨id, day, kind, item, q, a, r⟩ := ev
    simp only at hev2
    have bU := below_then (below_box w1 (Obj.cells #[.slice A1 n1 c1, .int .i64 k, .slice D1 m1 d1] 31)) (below_box _ (Obj.cells #[.int .i64 id, .int .i64 day, .int .i64 kind, .string item, .int .i64 q, .int .i64 a, .int .i64 r] 44))
    have P3 := Lib.hid (blk_alloc (blk_new1 w1 (Obj.cells #[.slice A1 n1 c1, .int .i64 k, .slice D1 m1 d1] 31)) (Obj.cells #[.int .i64 id, .int .i64 day, .int .i64 kind, .string item, .int .i64 q, .int .i64 a, .int .i64 r] 44))
    have P4 := Lib.hid (blk_new2 w1 (Obj.cells #[.slice A1 n1 c1, .int .i64 k, .slice D1 m1 d1] 31) (Obj.cells #[.int .i64 id, .int .i64 day, .int .i64 kind, .string item, .int .i64 q, .int .i64 a, .int .i64 r] 44))
    have C1 := implBookEv A1 n1 c1 k D1 m1 d1 ss ds ⟨id, day, kind, item, q, a, r⟩ _ (hs1.below bU) (hd1.below bU) hn1 hm1 SM.out.2.2.1 SM.out.2.2.2 (by simp only; omega)
    obtain ⟨cd, hcd⟩ : ∃ cd, cd = (bookEv ⟨ss, k, ds⟩ ⟨id, day, kind, item, q, a, r⟩).1 := ⟨_, rfl⟩
    obtain ⟨⟨ss2, k2, ds2⟩, hb2⟩ : ∃ b2, b2 = (bookEv ⟨ss, k, ds⟩ ⟨id, day, kind, item, q, a, r⟩).2 := ⟨_, rfl⟩
    have NO := Lib.hid (bookEv_no (b := ⟨ss, k, ds⟩) (e := ⟨id, day, kind, item, q, a, r⟩))
    have YES := Lib.hid (bookEv_yes (b := ⟨ss, k, ds⟩) (e := ⟨id, day, kind, item, q, a, r⟩))
    rw [← hcd, ← hb2] at C1 NO YES
    simp only at C1
    go_wp2_with fail
    refine C1.mono ?_; rintro e w2 ⟨A2, n2, c2, D2, m2, d2, rfl, O2, hb⟩
    have B2 := below_then b1 (below_then bU hb)
    have HS1 := Lib.hid (hs1.below (below_then bU hb)); have HD1 := Lib.hid (hd1.below (below_then bU hb)); have HS2 := Lib.hid O2.shelves; have HD2 := Lib.hid O2.docs
    replace P3 := Lib.hid (blk_keep hb P3.out); replace P4 := Lib.hid (blk_keep hb P4.out)
    have ql := O2.shelves.len; have qm := O2.docs.len
    have z2 := hb.size
    simp only [World.size_alloc] at z2
    clear C1 hcd hb2 O2 hb bU b1 hs1 hd1
    have bX := below_box w2 (Obj.cells #[.slice A2 n2 c2, .int .i64 k2, .slice D2 m2 d2] 31)
    have P5 := Lib.hid (blk_new1 w2 (Obj.cells #[.slice A2 n2 c2, .int .i64 k2, .slice D2 m2 d2] 31))
    replace P3 := Lib.hid (blk_keep bX P3.out); replace P4 := Lib.hid (blk_keep bX P4.out)
    replace HS1 := Lib.hid (HS1.out.below bX); replace HD1 := Lib.hid (HD1.out.below bX); replace HS2 := Lib.hid (HS2.out.below bX); replace HD2 := Lib.hid (HD2.out.below bX)
    have B3 := Lib.hid (below_then B2 bX)
    clear B2
    by_cases hc : cd = 0
    · subst hc
      obtain ⟨y1, y2, y3, y4, y5⟩ := YES.out rfl
      obtain ⟨q0, q1, qw⟩ := ev_ways y2
      simp only at q0 q1 qw
      have ob := onShelf_bd ss k ds item
      obtain ⟨nq, hnq⟩ : ∃ nq, nq = evQ ⟨id, day, kind, item, q, a, r⟩ := ⟨_, rfl⟩
      rw [← hnq] at y4 qw
      obtain ⟨so, hso⟩ : ∃ so, so = onShelf ss k ds item := ⟨_, rfl⟩
      rw [← hso] at y4 ob
      have SM2 := Lib.hid (areBk_sm y3)
      have hn2 : n2 ≤ 1048600 := by rw [← ql]; exact SM2.out.1
      have hm2 : m2 ≤ 1048600 := by rw [← qm]; exact SM2.out.2.1
      have Y1 := Lib.hid y1; have Y2 := Lib.hid y2; have Y3 := Lib.hid y3; have Y4 := Lib.hid y4; have Y5 := Lib.hid y5; have HSO := Lib.hid hso
      clear NO YES y1 y2 y3 y4 y5 hnq hso ql qm
      go_upto_region 7 with fail
      obtain ⟨V, hV⟩ : ∃ V, V = w2.alloc (Obj.cells #[.slice A2 n2 c2, .int .i64 k2, .slice D2 m2 d2] 31) := ⟨_, rfl⟩
      obtain ⟨x, hx⟩ : ∃ x, x = w2.heap.size := ⟨_, rfl⟩
      rw [← hV] at HS1 HD1 HS2 HD2 P3 P4 P5 B3 ⊢
      rw [← hx] at P5 ⊢
      clear hV hx bX z2
      have p42 := blk_at P4.out (j := 2) rfl; have p44 := blk_at P4.out (j := 4) rfl
      have wq : IntKind.i64.wrap (-q) = -q := IntWalk.i64_in _ (by omega)
      rcases qw with ⟨rfl, rfl⟩ | ⟨rfl, rfl⟩ | ⟨rfl, rfl⟩ | ⟨rfl, rfl⟩ | ⟨rfl, rfl⟩
      focus
        go_upto_region 15 with fail
        have wn : IntKind.i64.wrap (so + nq) = so + nq := IntWalk.i64_in _ (by omega)
        clear p42 p44 wq
        have HA := Lib.hid (fun (X : WX) (A' : Option Addr) (n' c' : Nat) (k' : Int) (D' : Option Addr) (m' d' : Nat) (h : ∃ ss' ds', ShelvesR V A' n' ss' ∧ DocsR V D' m' ds' ∧ n' ≤ 1048600 ∧ m' ≤ 1048600 ∧ shsSmall ss' ∧ docsSmall ds' ∧ areBk ss' k' ds' = true) =>
          (show Calls Try.prog 15 #[.agg #[.slice A' n' c', .int .i64 k', .slice D' m' d']] (wext V X) fun e w' => e = .returned (.bool true) ∧ ∃ y, w' = wext V y by
            obtain ⟨ss', ds', h1, h2, h3, h4, h5, h6, h7⟩ := h
            have := specAreBooks A' n' c' k' D' m' d' ss' ds' (wext V X) (h1.below (below_wext _ _)) (h2.below (below_wext _ _)) h3 h4 h5 h6
            rw [h7] at this
            exact ext_call this))
        have HO := Lib.hid (fun (X : WX) (A' : Option Addr) (n' c' : Nat) (k' : Int) (D' : Option Addr) (m' d' : Nat) (v : Int) (h : ∃ ss' ds', ShelvesR V A' n' ss' ∧ DocsR V D' m' ds' ∧ n' ≤ 1048600 ∧ m' ≤ 1048600 ∧ shsSmall ss' ∧ docsSmall ds' ∧ onShelf ss' k' ds' item = v) =>
          (show Calls Try.prog 20 #[.agg #[.slice A' n' c', .int .i64 k', .slice D' m' d'], .string item] (wext V X) fun e w' => e = .returned (.int .i64 v) ∧ ∃ y, w' = wext V y by
            obtain ⟨ss', ds', h1, h2, h3, h4, h5, h6, h7⟩ := h
            have := implOnShelf A' n' c' k' D' m' d' ss' ds' item (wext V X) (h1.below (below_wext _ _)) (h2.below (below_wext _ _)) h3 h4 h5 h6
            rw [h7] at this
            exact ext_call this))
        have HI := Lib.hid (fun (X : WX) =>
          (show Calls Try.prog 31 #[evAgg ⟨id, day, 1, item, nq, a, r⟩] (wext V X) fun e w' => e = .returned (.bool true) ∧ ∃ y, w' = wext V y by
            have := specIsEvent ⟨id, day, 1, item, nq, a, r⟩ (wext V X) (by simp only; omega)
            rw [Y2.out] at this
            exact ext_call this))
        have XA1 := Lib.hid (show ∃ ss' ds', ShelvesR V A1 n1 ss' ∧ DocsR V D1 m1 ds' ∧ n1 ≤ 1048600 ∧ m1 ≤ 1048600 ∧ shsSmall ss' ∧ docsSmall ds' ∧ areBk ss' k ds' = true from ⟨ss, ds, HS1.out, HD1.out, hn1, hm1, SM.out.2.2.1, SM.out.2.2.2, Y1.out⟩)
        have XA2 := Lib.hid (show ∃ ss' ds', ShelvesR V A2 n2 ss' ∧ DocsR V D2 m2 ds' ∧ n2 ≤ 1048600 ∧ m2 ≤ 1048600 ∧ shsSmall ss' ∧ docsSmall ds' ∧ areBk ss' k2 ds' = true from ⟨ss2, ds2, HS2.out, HD2.out, hn2, hm2, SM2.out.2.2.1, SM2.out.2.2.2, Y3.out⟩)
        have XO1 := Lib.hid (show ∃ ss' ds', ShelvesR V A1 n1 ss' ∧ DocsR V D1 m1 ds' ∧ n1 ≤ 1048600 ∧ m1 ≤ 1048600 ∧ shsSmall ss' ∧ docsSmall ds' ∧ onShelf ss' k ds' item = so from ⟨ss, ds, HS1.out, HD1.out, hn1, hm1, SM.out.2.2.1, SM.out.2.2.2, HSO.out.symm⟩)
        have XO2 := Lib.hid (show ∃ ss' ds', ShelvesR V A2 n2 ss' ∧ DocsR V D2 m2 ds' ∧ n2 ≤ 1048600 ∧ m2 ≤ 1048600 ∧ shsSmall ss' ∧ docsSmall ds' ∧ onShelf ss' k2 ds' item = _ from ⟨ss2, ds2, HS2.out, HD2.out, hn2, hm2, SM2.out.2.2.1, SM2.out.2.2.2, Y4.out⟩)
        have p30 := cell_wext (blk_at P3.out (j := 0) rfl); have p31 := cell_wext (blk_at P3.out (j := 1) rfl); have p32 := cell_wext (blk_at P3.out (j := 2) rfl)
        have p50 := cell_wext (blk_at P5.out (j := 0) rfl); have p51 := cell_wext (blk_at P5.out (j := 1) rfl); have p52 := cell_wext (blk_at P5.out (j := 2) rfl)
        have p40 := cell_wext (blk_at P4.out (j := 0) rfl); have p41 := cell_wext (blk_at P4.out (j := 1) rfl); have p42 := cell_wext (blk_at P4.out (j := 2) rfl); have p43 := cell_wext (blk_at P4.out (j := 3) rfl); have p44 := cell_wext (blk_at P4.out (j := 4) rfl); have p45 := cell_wext (blk_at P4.out (j := 5) rfl); have p46 := cell_wext (blk_at P4.out (j := 6) rfl)
        refine wp_region_ext (by kernel_rfl) (by kernel_rfl) ?_
        repeat (go_big_quiet_step (first | (go_at_call 15; exact HA.out _ _ _ _ _ _ _ _ (by first | exact XA1.out | exact XA2.out)) | (go_at_call 31; exact HI.out _) | (go_at_call 20; exact HO.out _ _ _ _ _ _ _ _ _ (by first | exact XO1.out | exact XO2.out))))
        refine wpQuiet_nil ?_
        intro _ hw'; obtain ⟨nz, hw''⟩ := hw'; subst hw''
        have bz := below_wext V nz
        obtain ⟨U, hU⟩ : ∃ U, U = wext V nz := ⟨_, rfl⟩
        rw [← hU] at bz ⊢
        replace P3 := Lib.hid (blk_keep bz P3.out); replace P5 := Lib.hid (blk_keep bz P5.out)
        replace HS1 := Lib.hid (HS1.out.below bz); replace HD1 := Lib.hid (HD1.out.below bz); replace HS2 := Lib.hid (HS2.out.below bz); replace HD2 := Lib.hid (HD2.out.below bz)
        replace B3 := Lib.hid (below_then B3.out bz)
        clear HA HO HI XA1 XA2 XO1 XO2 p30 p31 p32 p50 p51 p52 p40 p41 p42 p43 p44 p45 p46 wn P4 hU bz Y1 Y2 Y3 Y4 HSO
        go_upto_region 17 with fail
        have HG := Lib.hid (fun (X : WX) (A' : Option Addr) (n' c' : Nat) (k' : Int) (D' : Option Addr) (m' d' : Nat) (v : Bool) (h : ∃ ss' ds', ShelvesR U A' n' ss' ∧ DocsR U D' m' ds' ∧ n' ≤ 1048600 ∧ m' ≤ 1048600 ∧ shsSmall ss' ∧ docsSmall ds' ∧ agree ss' k' ds' = v) =>
          (show Calls Try.prog 21 #[.agg #[.slice A' n' c', .int .i64 k', .slice D' m' d']] (wext U X) fun e w' => e = .returned (.bool v) ∧ ∃ y, w' = wext U y by
            obtain ⟨ss', ds', h1, h2, h3, h4, h5, h6, h7⟩ := h
            have := specBooksAgree A' n' c' k' D' m' d' ss' ds' (wext U X) (h1.below (below_wext _ _)) (h2.below (below_wext _ _)) h3 h4 h5 h6
            rw [h7] at this
            exact ext_call this))
        have p30 := cell_wext (blk_at P3.out (j := 0) rfl); have p31 := cell_wext (blk_at P3.out (j := 1) rfl); have p32 := cell_wext (blk_at P3.out (j := 2) rfl)
        have p50 := cell_wext (blk_at P5.out (j := 0) rfl); have p51 := cell_wext (blk_at P5.out (j := 1) rfl); have p52 := cell_wext (blk_at P5.out (j := 2) rfl)
        cases hag : agree ss k ds
        · have XG1 := Lib.hid (show ∃ ss' ds', ShelvesR U A1 n1 ss' ∧ DocsR U D1 m1 ds' ∧ n1 ≤ 1048600 ∧ m1 ≤ 1048600 ∧ shsSmall ss' ∧ docsSmall ds' ∧ agree ss' k ds' = false from ⟨ss, ds, HS1.out, HD1.out, hn1, hm1, SM.out.2.2.1, SM.out.2.2.2, hag⟩)
          clear hag
          refine wp_region_ext (by kernel_rfl) (by kernel_rfl) ?_
          repeat (go_big_quiet_step ((go_at_call 21; exact HG.out _ _ _ _ _ _ _ _ _ XG1.out)))
          refine wpQuiet_nil ?_
          intro _ hw'; obtain ⟨ny, hw''⟩ := hw'; subst hw''
          have BE := below_then B3.out (below_wext U ny)
          go_wp2_with fail
          go_ret
          exact ⟨rfl, BE⟩
        · obtain ⟨g2, g3⟩ := Y5.out hag
          have XG1 := Lib.hid (show ∃ ss' ds', ShelvesR U A1 n1 ss' ∧ DocsR U D1 m1 ds' ∧ n1 ≤ 1048600 ∧ m1 ≤ 1048600 ∧ shsSmall ss' ∧ docsSmall ds' ∧ agree ss' k ds' = true from ⟨ss, ds, HS1.out, HD1.out, hn1, hm1, SM.out.2.2.1, SM.out.2.2.2, hag⟩)
          have XG2 := Lib.hid (show ∃ ss' ds', ShelvesR U A2 n2 ss' ∧ DocsR U D2 m2 ds' ∧ n2 ≤ 1048600 ∧ m2 ≤ 1048600 ∧ shsSmall ss' ∧ docsSmall ds' ∧ agree ss' k2 ds' = true from ⟨ss2, ds2, HS2.out, HD2.out, hn2, hm2, SM2.out.2.2.1, SM2.out.2.2.2, g2⟩)
          have HI := Lib.hid (fun (X : WX) => (show Calls Try.prog 22 #[.agg #[.slice A2 n2 c2, .int .i64 k2, .slice D2 m2 d2]] (wext U X) fun e w' => e = .returned (.bool true) ∧ ∃ y, w' = wext U y by
            have := implBooksAgree A2 n2 c2 k2 D2 m2 d2 ss2 ds2 (wext U X) (HS2.out.below (below_wext _ _)) (HD2.out.below (below_wext _ _)) hn2 hm2 SM2.out.2.2.1 SM2.out.2.2.2
            rw [g2] at this
            exact ext_call this))
          have HW := Lib.hid (fun (X : WX) => (show Calls Try.prog 18 #[.agg #[.slice A2 n2 c2, .int .i64 k2, .slice D2 m2 d2]] (wext U X) fun e w' => e = .returned (.int .i64 (stockW ss2 k2 ds2)) ∧ ∃ y, w' = wext U y from
            ext_call (implStockWorth A2 n2 c2 k2 D2 m2 d2 ss2 ds2 (wext U X) (HS2.out.below (below_wext _ _)) (HD2.out.below (below_wext _ _)) hn2 hm2 SM2.out.2.2.1 SM2.out.2.2.2)))
          have HB := Lib.hid (fun (X : WX) => (show Calls Try.prog 32 #[.slice D2 m2 d2, .string ⟨#[83, 84, 79, 67, 75]⟩, .int .i64 999] (wext U X) fun e w' => e = .returned (.int .i64 (stockW ss2 k2 ds2)) ∧ ∃ y, w' = wext U y by
            have := specBalance D2 m2 d2 ds2 tStock 999 (wext U X) (HD2.out.below (below_wext _ _)) hm2 SM2.out.2.2.2
            rw [← g3] at this
            exact ext_call this))
          clear hag g2 g3
          refine wp_region_ext (by kernel_rfl) (by kernel_rfl) ?_
          repeat (go_big_quiet_step (first | (go_at_call 21; exact HG.out _ _ _ _ _ _ _ _ _ (by first | exact XG1.out | exact XG2.out)) | (go_at_call 22; exact HI.out _) | (go_at_call 18; exact HW.out _) | (go_at_call 32; exact HB.out _)))
          refine wpQuiet_nil ?_
          intro _ hw'; obtain ⟨ny, hw''⟩ := hw'; subst hw''
          have BE := below_then B3.out (below_wext U ny)
          go_wp2_with fail
          go_ret
          exact ⟨rfl, BE⟩
      focus
        go_upto_region 15 with fail
        have wn : IntKind.i64.wrap (so + nq) = so + nq := IntWalk.i64_in _ (by omega)
        clear p42 p44 wq
        have HA := Lib.hid (fun (X : WX) (A' : Option Addr) (n' c' : Nat) (k' : Int) (D' : Option Addr) (m' d' : Nat) (h : ∃ ss' ds', ShelvesR V A' n' ss' ∧ DocsR V D' m' ds' ∧ n' ≤ 1048600 ∧ m' ≤ 1048600 ∧ shsSmall ss' ∧ docsSmall ds' ∧ areBk ss' k' ds' = true) =>
          (show Calls Try.prog 15 #[.agg #[.slice A' n' c', .int .i64 k', .slice D' m' d']] (wext V X) fun e w' => e = .returned (.bool true) ∧ ∃ y, w' = wext V y by
            obtain ⟨ss', ds', h1, h2, h3, h4, h5, h6, h7⟩ := h
            have := specAreBooks A' n' c' k' D' m' d' ss' ds' (wext V X) (h1.below (below_wext _ _)) (h2.below (below_wext _ _)) h3 h4 h5 h6
            rw [h7] at this
            exact ext_call this))
        have HO := Lib.hid (fun (X : WX) (A' : Option Addr) (n' c' : Nat) (k' : Int) (D' : Option Addr) (m' d' : Nat) (v : Int) (h : ∃ ss' ds', ShelvesR V A' n' ss' ∧ DocsR V D' m' ds' ∧ n' ≤ 1048600 ∧ m' ≤ 1048600 ∧ shsSmall ss' ∧ docsSmall ds' ∧ onShelf ss' k' ds' item = v) =>
          (show Calls Try.prog 20 #[.agg #[.slice A' n' c', .int .i64 k', .slice D' m' d'], .string item] (wext V X) fun e w' => e = .returned (.int .i64 v) ∧ ∃ y, w' = wext V y by
            obtain ⟨ss', ds', h1, h2, h3, h4, h5, h6, h7⟩ := h
            have := implOnShelf A' n' c' k' D' m' d' ss' ds' item (wext V X) (h1.below (below_wext _ _)) (h2.below (below_wext _ _)) h3 h4 h5 h6
            rw [h7] at this
            exact ext_call this))
        have HI := Lib.hid (fun (X : WX) =>
          (show Calls Try.prog 31 #[evAgg ⟨id, day, 3, item, nq, a, r⟩] (wext V X) fun e w' => e = .returned (.bool true) ∧ ∃ y, w' = wext V y by
            have := specIsEvent ⟨id, day, 3, item, nq, a, r⟩ (wext V X) (by simp only; omega)
            rw [Y2.out] at this
            exact ext_call this))
        have XA1 := Lib.hid (show ∃ ss' ds', ShelvesR V A1 n1 ss' ∧ DocsR V D1 m1 ds' ∧ n1 ≤ 1048600 ∧ m1 ≤ 1048600 ∧ shsSmall ss' ∧ docsSmall ds' ∧ areBk ss' k ds' = true from ⟨ss, ds, HS1.out, HD1.out, hn1, hm1, SM.out.2.2.1, SM.out.2.2.2, Y1.out⟩)
        have XA2 := Lib.hid (show ∃ ss' ds', ShelvesR V A2 n2 ss' ∧ DocsR V D2 m2 ds' ∧ n2 ≤ 1048600 ∧ m2 ≤ 1048600 ∧ shsSmall ss' ∧ docsSmall ds' ∧ areBk ss' k2 ds' = true from ⟨ss2, ds2, HS2.out, HD2.out, hn2, hm2, SM2.out.2.2.1, SM2.out.2.2.2, Y3.out⟩)
        have XO1 := Lib.hid (show ∃ ss' ds', ShelvesR V A1 n1 ss' ∧ DocsR V D1 m1 ds' ∧ n1 ≤ 1048600 ∧ m1 ≤ 1048600 ∧ shsSmall ss' ∧ docsSmall ds' ∧ onShelf ss' k ds' item = so from ⟨ss, ds, HS1.out, HD1.out, hn1, hm1, SM.out.2.2.1, SM.out.2.2.2, HSO.out.symm⟩)
        have XO2 := Lib.hid (show ∃ ss' ds', ShelvesR V A2 n2 ss' ∧ DocsR V D2 m2 ds' ∧ n2 ≤ 1048600 ∧ m2 ≤ 1048600 ∧ shsSmall ss' ∧ docsSmall ds' ∧ onShelf ss' k2 ds' item = _ from ⟨ss2, ds2, HS2.out, HD2.out, hn2, hm2, SM2.out.2.2.1, SM2.out.2.2.2, Y4.out⟩)
        have p30 := cell_wext (blk_at P3.out (j := 0) rfl); have p31 := cell_wext (blk_at P3.out (j := 1) rfl); have p32 := cell_wext (blk_at P3.out (j := 2) rfl)
        have p50 := cell_wext (blk_at P5.out (j := 0) rfl); have p51 := cell_wext (blk_at P5.out (j := 1) rfl); have p52 := cell_wext (blk_at P5.out (j := 2) rfl)
        have p40 := cell_wext (blk_at P4.out (j := 0) rfl); have p41 := cell_wext (blk_at P4.out (j := 1) rfl); have p42 := cell_wext (blk_at P4.out (j := 2) rfl); have p43 := cell_wext (blk_at P4.out (j := 3) rfl); have p44 := cell_wext (blk_at P4.out (j := 4) rfl); have p45 := cell_wext (blk_at P4.out (j := 5) rfl); have p46 := cell_wext (blk_at P4.out (j := 6) rfl)
        refine wp_region_ext (by kernel_rfl) (by kernel_rfl) ?_
        repeat (go_big_quiet_step (first | (go_at_call 15; exact HA.out _ _ _ _ _ _ _ _ (by first | exact XA1.out | exact XA2.out)) | (go_at_call 31; exact HI.out _) | (go_at_call 20; exact HO.out _ _ _ _ _ _ _ _ _ (by first | exact XO1.out | exact XO2.out))))
        refine wpQuiet_nil ?_
        intro _ hw'; obtain ⟨nz, hw''⟩ := hw'; subst hw''
        have bz := below_wext V nz
        obtain ⟨U, hU⟩ : ∃ U, U = wext V nz := ⟨_, rfl⟩
        rw [← hU] at bz ⊢
        replace P3 := Lib.hid (blk_keep bz P3.out); replace P5 := Lib.hid (blk_keep bz P5.out)
        replace HS1 := Lib.hid (HS1.out.below bz); replace HD1 := Lib.hid (HD1.out.below bz); replace HS2 := Lib.hid (HS2.out.below bz); replace HD2 := Lib.hid (HD2.out.below bz)
        replace B3 := Lib.hid (below_then B3.out bz)
        clear HA HO HI XA1 XA2 XO1 XO2 p30 p31 p32 p50 p51 p52 p40 p41 p42 p43 p44 p45 p46 wn P4 hU bz Y1 Y2 Y3 Y4 HSO
        go_upto_region 17 with fail
        have HG := Lib.hid (fun (X : WX) (A' : Option Addr) (n' c' : Nat) (k' : Int) (D' : Option Addr) (m' d' : Nat) (v : Bool) (h : ∃ ss' ds', ShelvesR U A' n' ss' ∧ DocsR U D' m' ds' ∧ n' ≤ 1048600 ∧ m' ≤ 1048600 ∧ shsSmall ss' ∧ docsSmall ds' ∧ agree ss' k' ds' = v) =>
          (show Calls Try.prog 21 #[.agg #[.slice A' n' c', .int .i64 k', .slice D' m' d']] (wext U X) fun e w' => e = .returned (.bool v) ∧ ∃ y, w' = wext U y by
            obtain ⟨ss', ds', h1, h2, h3, h4, h5, h6, h7⟩ := h
            have := specBooksAgree A' n' c' k' D' m' d' ss' ds' (wext U X) (h1.below (below_wext _ _)) (h2.below (below_wext _ _)) h3 h4 h5 h6
            rw [h7] at this
            exact ext_call this))
        have p30 := cell_wext (blk_at P3.out (j := 0) rfl); have p31 := cell_wext (blk_at P3.out (j := 1) rfl); have p32 := cell_wext (blk_at P3.out (j := 2) rfl)
        have p50 := cell_wext (blk_at P5.out (j := 0) rfl); have p51 := cell_wext (blk_at P5.out (j := 1) rfl); have p52 := cell_wext (blk_at P5.out (j := 2) rfl)
        cases hag : agree ss k ds
        · have XG1 := Lib.hid (show ∃ ss' ds', ShelvesR U A1 n1 ss' ∧ DocsR U D1 m1 ds' ∧ n1 ≤ 1048600 ∧ m1 ≤ 1048600 ∧ shsSmall ss' ∧ docsSmall ds' ∧ agree ss' k ds' = false from ⟨ss, ds, HS1.out, HD1.out, hn1, hm1, SM.out.2.2.1, SM.out.2.2.2, hag⟩)
          clear hag
          refine wp_region_ext (by kernel_rfl) (by kernel_rfl) ?_
          repeat (go_big_quiet_step ((go_at_call 21; exact HG.out _ _ _ _ _ _ _ _ _ XG1.out)))
          refine wpQuiet_nil ?_
          intro _ hw'; obtain ⟨ny, hw''⟩ := hw'; subst hw''
          have BE := below_then B3.out (below_wext U ny)
          go_wp2_with fail
          go_ret
          exact ⟨rfl, BE⟩
        · obtain ⟨g2, g3⟩ := Y5.out hag
          have XG1 := Lib.hid (show ∃ ss' ds', ShelvesR U A1 n1 ss' ∧ DocsR U D1 m1 ds' ∧ n1 ≤ 1048600 ∧ m1 ≤ 1048600 ∧ shsSmall ss' ∧ docsSmall ds' ∧ agree ss' k ds' = true from ⟨ss, ds, HS1.out, HD1.out, hn1, hm1, SM.out.2.2.1, SM.out.2.2.2, hag⟩)
          have XG2 := Lib.hid (show ∃ ss' ds', ShelvesR U A2 n2 ss' ∧ DocsR U D2 m2 ds' ∧ n2 ≤ 1048600 ∧ m2 ≤ 1048600 ∧ shsSmall ss' ∧ docsSmall ds' ∧ agree ss' k2 ds' = true from ⟨ss2, ds2, HS2.out, HD2.out, hn2, hm2, SM2.out.2.2.1, SM2.out.2.2.2, g2⟩)
          have HI := Lib.hid (fun (X : WX) => (show Calls Try.prog 22 #[.agg #[.slice A2 n2 c2, .int .i64 k2, .slice D2 m2 d2]] (wext U X) fun e w' => e = .returned (.bool true) ∧ ∃ y, w' = wext U y by
            have := implBooksAgree A2 n2 c2 k2 D2 m2 d2 ss2 ds2 (wext U X) (HS2.out.below (below_wext _ _)) (HD2.out.below (below_wext _ _)) hn2 hm2 SM2.out.2.2.1 SM2.out.2.2.2
            rw [g2] at this
            exact ext_call this))
          have HW := Lib.hid (fun (X : WX) => (show Calls Try.prog 18 #[.agg #[.slice A2 n2 c2, .int .i64 k2, .slice D2 m2 d2]] (wext U X) fun e w' => e = .returned (.int .i64 (stockW ss2 k2 ds2)) ∧ ∃ y, w' = wext U y from
            ext_call (implStockWorth A2 n2 c2 k2 D2 m2 d2 ss2 ds2 (wext U X) (HS2.out.below (below_wext _ _)) (HD2.out.below (below_wext _ _)) hn2 hm2 SM2.out.2.2.1 SM2.out.2.2.2)))
          have HB := Lib.hid (fun (X : WX) => (show Calls Try.prog 32 #[.slice D2 m2 d2, .string ⟨#[83, 84, 79, 67, 75]⟩, .int .i64 999] (wext U X) fun e w' => e = .returned (.int .i64 (stockW ss2 k2 ds2)) ∧ ∃ y, w' = wext U y by
            have := specBalance D2 m2 d2 ds2 tStock 999 (wext U X) (HD2.out.below (below_wext _ _)) hm2 SM2.out.2.2.2
            rw [← g3] at this
            exact ext_call this))
          clear hag g2 g3
          refine wp_region_ext (by kernel_rfl) (by kernel_rfl) ?_
          repeat (go_big_quiet_step (first | (go_at_call 21; exact HG.out _ _ _ _ _ _ _ _ _ (by first | exact XG1.out | exact XG2.out)) | (go_at_call 22; exact HI.out _) | (go_at_call 18; exact HW.out _) | (go_at_call 32; exact HB.out _)))
          refine wpQuiet_nil ?_
          intro _ hw'; obtain ⟨ny, hw''⟩ := hw'; subst hw''
          have BE := below_then B3.out (below_wext U ny)
          go_wp2_with fail
          go_ret
          exact ⟨rfl, BE⟩
      focus
        go_upto_region 15 with fail
        have wn : IntKind.i64.wrap (so + (-q)) = so + (-q) := IntWalk.i64_in _ (by omega)
        clear p42 p44 wq
        have HA := Lib.hid (fun (X : WX) (A' : Option Addr) (n' c' : Nat) (k' : Int) (D' : Option Addr) (m' d' : Nat) (h : ∃ ss' ds', ShelvesR V A' n' ss' ∧ DocsR V D' m' ds' ∧ n' ≤ 1048600 ∧ m' ≤ 1048600 ∧ shsSmall ss' ∧ docsSmall ds' ∧ areBk ss' k' ds' = true) =>
          (show Calls Try.prog 15 #[.agg #[.slice A' n' c', .int .i64 k', .slice D' m' d']] (wext V X) fun e w' => e = .returned (.bool true) ∧ ∃ y, w' = wext V y by
            obtain ⟨ss', ds', h1, h2, h3, h4, h5, h6, h7⟩ := h
            have := specAreBooks A' n' c' k' D' m' d' ss' ds' (wext V X) (h1.below (below_wext _ _)) (h2.below (below_wext _ _)) h3 h4 h5 h6
            rw [h7] at this
            exact ext_call this))
        have HO := Lib.hid (fun (X : WX) (A' : Option Addr) (n' c' : Nat) (k' : Int) (D' : Option Addr) (m' d' : Nat) (v : Int) (h : ∃ ss' ds', ShelvesR V A' n' ss' ∧ DocsR V D' m' ds' ∧ n' ≤ 1048600 ∧ m' ≤ 1048600 ∧ shsSmall ss' ∧ docsSmall ds' ∧ onShelf ss' k' ds' item = v) =>
          (show Calls Try.prog 20 #[.agg #[.slice A' n' c', .int .i64 k', .slice D' m' d'], .string item] (wext V X) fun e w' => e = .returned (.int .i64 v) ∧ ∃ y, w' = wext V y by
            obtain ⟨ss', ds', h1, h2, h3, h4, h5, h6, h7⟩ := h
            have := implOnShelf A' n' c' k' D' m' d' ss' ds' item (wext V X) (h1.below (below_wext _ _)) (h2.below (below_wext _ _)) h3 h4 h5 h6
            rw [h7] at this
            exact ext_call this))
        have HI := Lib.hid (fun (X : WX) =>
          (show Calls Try.prog 31 #[evAgg ⟨id, day, 2, item, q, a, r⟩] (wext V X) fun e w' => e = .returned (.bool true) ∧ ∃ y, w' = wext V y by
            have := specIsEvent ⟨id, day, 2, item, q, a, r⟩ (wext V X) (by simp only; omega)
            rw [Y2.out] at this
            exact ext_call this))
        have XA1 := Lib.hid (show ∃ ss' ds', ShelvesR V A1 n1 ss' ∧ DocsR V D1 m1 ds' ∧ n1 ≤ 1048600 ∧ m1 ≤ 1048600 ∧ shsSmall ss' ∧ docsSmall ds' ∧ areBk ss' k ds' = true from ⟨ss, ds, HS1.out, HD1.out, hn1, hm1, SM.out.2.2.1, SM.out.2.2.2, Y1.out⟩)
        have XA2 := Lib.hid (show ∃ ss' ds', ShelvesR V A2 n2 ss' ∧ DocsR V D2 m2 ds' ∧ n2 ≤ 1048600 ∧ m2 ≤ 1048600 ∧ shsSmall ss' ∧ docsSmall ds' ∧ areBk ss' k2 ds' = true from ⟨ss2, ds2, HS2.out, HD2.out, hn2, hm2, SM2.out.2.2.1, SM2.out.2.2.2, Y3.out⟩)
        have XO1 := Lib.hid (show ∃ ss' ds', ShelvesR V A1 n1 ss' ∧ DocsR V D1 m1 ds' ∧ n1 ≤ 1048600 ∧ m1 ≤ 1048600 ∧ shsSmall ss' ∧ docsSmall ds' ∧ onShelf ss' k ds' item = so from ⟨ss, ds, HS1.out, HD1.out, hn1, hm1, SM.out.2.2.1, SM.out.2.2.2, HSO.out.symm⟩)
        have XO2 := Lib.hid (show ∃ ss' ds', ShelvesR V A2 n2 ss' ∧ DocsR V D2 m2 ds' ∧ n2 ≤ 1048600 ∧ m2 ≤ 1048600 ∧ shsSmall ss' ∧ docsSmall ds' ∧ onShelf ss' k2 ds' item = _ from ⟨ss2, ds2, HS2.out, HD2.out, hn2, hm2, SM2.out.2.2.1, SM2.out.2.2.2, Y4.out⟩)
        have p30 := cell_wext (blk_at P3.out (j := 0) rfl); have p31 := cell_wext (blk_at P3.out (j := 1) rfl); have p32 := cell_wext (blk_at P3.out (j := 2) rfl)
        have p50 := cell_wext (blk_at P5.out (j := 0) rfl); have p51 := cell_wext (blk_at P5.out (j := 1) rfl); have p52 := cell_wext (blk_at P5.out (j := 2) rfl)
        have p40 := cell_wext (blk_at P4.out (j := 0) rfl); have p41 := cell_wext (blk_at P4.out (j := 1) rfl); have p42 := cell_wext (blk_at P4.out (j := 2) rfl); have p43 := cell_wext (blk_at P4.out (j := 3) rfl); have p44 := cell_wext (blk_at P4.out (j := 4) rfl); have p45 := cell_wext (blk_at P4.out (j := 5) rfl); have p46 := cell_wext (blk_at P4.out (j := 6) rfl)
        refine wp_region_ext (by kernel_rfl) (by kernel_rfl) ?_
        repeat (go_big_quiet_step (first | (go_at_call 15; exact HA.out _ _ _ _ _ _ _ _ (by first | exact XA1.out | exact XA2.out)) | (go_at_call 31; exact HI.out _) | (go_at_call 20; exact HO.out _ _ _ _ _ _ _ _ _ (by first | exact XO1.out | exact XO2.out))))
        refine wpQuiet_nil ?_
        intro _ hw'; obtain ⟨nz, hw''⟩ := hw'; subst hw''
        have bz := below_wext V nz
        obtain ⟨U, hU⟩ : ∃ U, U = wext V nz := ⟨_, rfl⟩
        rw [← hU] at bz ⊢
        replace P3 := Lib.hid (blk_keep bz P3.out); replace P5 := Lib.hid (blk_keep bz P5.out)
        replace HS1 := Lib.hid (HS1.out.below bz); replace HD1 := Lib.hid (HD1.out.below bz); replace HS2 := Lib.hid (HS2.out.below bz); replace HD2 := Lib.hid (HD2.out.below bz)
        replace B3 := Lib.hid (below_then B3.out bz)
        clear HA HO HI XA1 XA2 XO1 XO2 p30 p31 p32 p50 p51 p52 p40 p41 p42 p43 p44 p45 p46 wn P4 hU bz Y1 Y2 Y3 Y4 HSO
        go_upto_region 17 with fail
        have HG := Lib.hid (fun (X : WX) (A' : Option Addr) (n' c' : Nat) (k' : Int) (D' : Option Addr) (m' d' : Nat) (v : Bool) (h : ∃ ss' ds', ShelvesR U A' n' ss' ∧ DocsR U D' m' ds' ∧ n' ≤ 1048600 ∧ m' ≤ 1048600 ∧ shsSmall ss' ∧ docsSmall ds' ∧ agree ss' k' ds' = v) =>
          (show Calls Try.prog 21 #[.agg #[.slice A' n' c', .int .i64 k', .slice D' m' d']] (wext U X) fun e w' => e = .returned (.bool v) ∧ ∃ y, w' = wext U y by
            obtain ⟨ss', ds', h1, h2, h3, h4, h5, h6, h7⟩ := h
            have := specBooksAgree A' n' c' k' D' m' d' ss' ds' (wext U X) (h1.below (below_wext _ _)) (h2.below (below_wext _ _)) h3 h4 h5 h6
            rw [h7] at this
            exact ext_call this))
        have p30 := cell_wext (blk_at P3.out (j := 0) rfl); have p31 := cell_wext (blk_at P3.out (j := 1) rfl); have p32 := cell_wext (blk_at P3.out (j := 2) rfl)
        have p50 := cell_wext (blk_at P5.out (j := 0) rfl); have p51 := cell_wext (blk_at P5.out (j := 1) rfl); have p52 := cell_wext (blk_at P5.out (j := 2) rfl)
        cases hag : agree ss k ds
        · have XG1 := Lib.hid (show ∃ ss' ds', ShelvesR U A1 n1 ss' ∧ DocsR U D1 m1 ds' ∧ n1 ≤ 1048600 ∧ m1 ≤ 1048600 ∧ shsSmall ss' ∧ docsSmall ds' ∧ agree ss' k ds' = false from ⟨ss, ds, HS1.out, HD1.out, hn1, hm1, SM.out.2.2.1, SM.out.2.2.2, hag⟩)
          clear hag
          refine wp_region_ext (by kernel_rfl) (by kernel_rfl) ?_
          repeat (go_big_quiet_step ((go_at_call 21; exact HG.out _ _ _ _ _ _ _ _ _ XG1.out)))
          refine wpQuiet_nil ?_
          intro _ hw'; obtain ⟨ny, hw''⟩ := hw'; subst hw''
          have BE := below_then B3.out (below_wext U ny)
          go_wp2_with fail
          go_ret
          exact ⟨rfl, BE⟩
        · obtain ⟨g2, g3⟩ := Y5.out hag
          have XG1 := Lib.hid (show ∃ ss' ds', ShelvesR U A1 n1 ss' ∧ DocsR U D1 m1 ds' ∧ n1 ≤ 1048600 ∧ m1 ≤ 1048600 ∧ shsSmall ss' ∧ docsSmall ds' ∧ agree ss' k ds' = true from ⟨ss, ds, HS1.out, HD1.out, hn1, hm1, SM.out.2.2.1, SM.out.2.2.2, hag⟩)
          have XG2 := Lib.hid (show ∃ ss' ds', ShelvesR U A2 n2 ss' ∧ DocsR U D2 m2 ds' ∧ n2 ≤ 1048600 ∧ m2 ≤ 1048600 ∧ shsSmall ss' ∧ docsSmall ds' ∧ agree ss' k2 ds' = true from ⟨ss2, ds2, HS2.out, HD2.out, hn2, hm2, SM2.out.2.2.1, SM2.out.2.2.2, g2⟩)
          have HI := Lib.hid (fun (X : WX) => (show Calls Try.prog 22 #[.agg #[.slice A2 n2 c2, .int .i64 k2, .slice D2 m2 d2]] (wext U X) fun e w' => e = .returned (.bool true) ∧ ∃ y, w' = wext U y by
            have := implBooksAgree A2 n2 c2 k2 D2 m2 d2 ss2 ds2 (wext U X) (HS2.out.below (below_wext _ _)) (HD2.out.below (below_wext _ _)) hn2 hm2 SM2.out.2.2.1 SM2.out.2.2.2
            rw [g2] at this
            exact ext_call this))
          have HW := Lib.hid (fun (X : WX) => (show Calls Try.prog 18 #[.agg #[.slice A2 n2 c2, .int .i64 k2, .slice D2 m2 d2]] (wext U X) fun e w' => e = .returned (.int .i64 (stockW ss2 k2 ds2)) ∧ ∃ y, w' = wext U y from
            ext_call (implStockWorth A2 n2 c2 k2 D2 m2 d2 ss2 ds2 (wext U X) (HS2.out.below (below_wext _ _)) (HD2.out.below (below_wext _ _)) hn2 hm2 SM2.out.2.2.1 SM2.out.2.2.2)))
          have HB := Lib.hid (fun (X : WX) => (show Calls Try.prog 32 #[.slice D2 m2 d2, .string ⟨#[83, 84, 79, 67, 75]⟩, .int .i64 999] (wext U X) fun e w' => e = .returned (.int .i64 (stockW ss2 k2 ds2)) ∧ ∃ y, w' = wext U y by
            have := specBalance D2 m2 d2 ds2 tStock 999 (wext U X) (HD2.out.below (below_wext _ _)) hm2 SM2.out.2.2.2
            rw [← g3] at this
            exact ext_call this))
          clear hag g2 g3
          refine wp_region_ext (by kernel_rfl) (by kernel_rfl) ?_
          repeat (go_big_quiet_step (first | (go_at_call 21; exact HG.out _ _ _ _ _ _ _ _ _ (by first | exact XG1.out | exact XG2.out)) | (go_at_call 22; exact HI.out _) | (go_at_call 18; exact HW.out _) | (go_at_call 32; exact HB.out _)))
          refine wpQuiet_nil ?_
          intro _ hw'; obtain ⟨ny, hw''⟩ := hw'; subst hw''
          have BE := below_then B3.out (below_wext U ny)
          go_wp2_with fail
          go_ret
          exact ⟨rfl, BE⟩
      focus
        go_upto_region 15 with fail
        have wn : IntKind.i64.wrap (so + (-q)) = so + (-q) := IntWalk.i64_in _ (by omega)
        clear p42 p44 wq
        have HA := Lib.hid (fun (X : WX) (A' : Option Addr) (n' c' : Nat) (k' : Int) (D' : Option Addr) (m' d' : Nat) (h : ∃ ss' ds', ShelvesR V A' n' ss' ∧ DocsR V D' m' ds' ∧ n' ≤ 1048600 ∧ m' ≤ 1048600 ∧ shsSmall ss' ∧ docsSmall ds' ∧ areBk ss' k' ds' = true) =>
          (show Calls Try.prog 15 #[.agg #[.slice A' n' c', .int .i64 k', .slice D' m' d']] (wext V X) fun e w' => e = .returned (.bool true) ∧ ∃ y, w' = wext V y by
            obtain ⟨ss', ds', h1, h2, h3, h4, h5, h6, h7⟩ := h
            have := specAreBooks A' n' c' k' D' m' d' ss' ds' (wext V X) (h1.below (below_wext _ _)) (h2.below (below_wext _ _)) h3 h4 h5 h6
            rw [h7] at this
            exact ext_call this))
        have HO := Lib.hid (fun (X : WX) (A' : Option Addr) (n' c' : Nat) (k' : Int) (D' : Option Addr) (m' d' : Nat) (v : Int) (h : ∃ ss' ds', ShelvesR V A' n' ss' ∧ DocsR V D' m' ds' ∧ n' ≤ 1048600 ∧ m' ≤ 1048600 ∧ shsSmall ss' ∧ docsSmall ds' ∧ onShelf ss' k' ds' item = v) =>
          (show Calls Try.prog 20 #[.agg #[.slice A' n' c', .int .i64 k', .slice D' m' d'], .string item] (wext V X) fun e w' => e = .returned (.int .i64 v) ∧ ∃ y, w' = wext V y by
            obtain ⟨ss', ds', h1, h2, h3, h4, h5, h6, h7⟩ := h
            have := implOnShelf A' n' c' k' D' m' d' ss' ds' item (wext V X) (h1.below (below_wext _ _)) (h2.below (below_wext _ _)) h3 h4 h5 h6
            rw [h7] at this
            exact ext_call this))
        have HI := Lib.hid (fun (X : WX) =>
          (show Calls Try.prog 31 #[evAgg ⟨id, day, 4, item, q, a, r⟩] (wext V X) fun e w' => e = .returned (.bool true) ∧ ∃ y, w' = wext V y by
            have := specIsEvent ⟨id, day, 4, item, q, a, r⟩ (wext V X) (by simp only; omega)
            rw [Y2.out] at this
            exact ext_call this))
        have XA1 := Lib.hid (show ∃ ss' ds', ShelvesR V A1 n1 ss' ∧ DocsR V D1 m1 ds' ∧ n1 ≤ 1048600 ∧ m1 ≤ 1048600 ∧ shsSmall ss' ∧ docsSmall ds' ∧ areBk ss' k ds' = true from ⟨ss, ds, HS1.out, HD1.out, hn1, hm1, SM.out.2.2.1, SM.out.2.2.2, Y1.out⟩)
        have XA2 := Lib.hid (show ∃ ss' ds', ShelvesR V A2 n2 ss' ∧ DocsR V D2 m2 ds' ∧ n2 ≤ 1048600 ∧ m2 ≤ 1048600 ∧ shsSmall ss' ∧ docsSmall ds' ∧ areBk ss' k2 ds' = true from ⟨ss2, ds2, HS2.out, HD2.out, hn2, hm2, SM2.out.2.2.1, SM2.out.2.2.2, Y3.out⟩)
        have XO1 := Lib.hid (show ∃ ss' ds', ShelvesR V A1 n1 ss' ∧ DocsR V D1 m1 ds' ∧ n1 ≤ 1048600 ∧ m1 ≤ 1048600 ∧ shsSmall ss' ∧ docsSmall ds' ∧ onShelf ss' k ds' item = so from ⟨ss, ds, HS1.out, HD1.out, hn1, hm1, SM.out.2.2.1, SM.out.2.2.2, HSO.out.symm⟩)
        have XO2 := Lib.hid (show ∃ ss' ds', ShelvesR V A2 n2 ss' ∧ DocsR V D2 m2 ds' ∧ n2 ≤ 1048600 ∧ m2 ≤ 1048600 ∧ shsSmall ss' ∧ docsSmall ds' ∧ onShelf ss' k2 ds' item = _ from ⟨ss2, ds2, HS2.out, HD2.out, hn2, hm2, SM2.out.2.2.1, SM2.out.2.2.2, Y4.out⟩)
        have p30 := cell_wext (blk_at P3.out (j := 0) rfl); have p31 := cell_wext (blk_at P3.out (j := 1) rfl); have p32 := cell_wext (blk_at P3.out (j := 2) rfl)
        have p50 := cell_wext (blk_at P5.out (j := 0) rfl); have p51 := cell_wext (blk_at P5.out (j := 1) rfl); have p52 := cell_wext (blk_at P5.out (j := 2) rfl)
        have p40 := cell_wext (blk_at P4.out (j := 0) rfl); have p41 := cell_wext (blk_at P4.out (j := 1) rfl); have p42 := cell_wext (blk_at P4.out (j := 2) rfl); have p43 := cell_wext (blk_at P4.out (j := 3) rfl); have p44 := cell_wext (blk_at P4.out (j := 4) rfl); have p45 := cell_wext (blk_at P4.out (j := 5) rfl); have p46 := cell_wext (blk_at P4.out (j := 6) rfl)
        refine wp_region_ext (by kernel_rfl) (by kernel_rfl) ?_
        repeat (go_big_quiet_step (first | (go_at_call 15; exact HA.out _ _ _ _ _ _ _ _ (by first | exact XA1.out | exact XA2.out)) | (go_at_call 31; exact HI.out _) | (go_at_call 20; exact HO.out _ _ _ _ _ _ _ _ _ (by first | exact XO1.out | exact XO2.out))))
        refine wpQuiet_nil ?_
        intro _ hw'; obtain ⟨nz, hw''⟩ := hw'; subst hw''
        have bz := below_wext V nz
        obtain ⟨U, hU⟩ : ∃ U, U = wext V nz := ⟨_, rfl⟩
        rw [← hU] at bz ⊢
        replace P3 := Lib.hid (blk_keep bz P3.out); replace P5 := Lib.hid (blk_keep bz P5.out)
        replace HS1 := Lib.hid (HS1.out.below bz); replace HD1 := Lib.hid (HD1.out.below bz); replace HS2 := Lib.hid (HS2.out.below bz); replace HD2 := Lib.hid (HD2.out.below bz)
        replace B3 := Lib.hid (below_then B3.out bz)
        clear HA HO HI XA1 XA2 XO1 XO2 p30 p31 p32 p50 p51 p52 p40 p41 p42 p43 p44 p45 p46 wn P4 hU bz Y1 Y2 Y3 Y4 HSO
        go_upto_region 17 with fail
        have HG := Lib.hid (fun (X : WX) (A' : Option Addr) (n' c' : Nat) (k' : Int) (D' : Option Addr) (m' d' : Nat) (v : Bool) (h : ∃ ss' ds', ShelvesR U A' n' ss' ∧ DocsR U D' m' ds' ∧ n' ≤ 1048600 ∧ m' ≤ 1048600 ∧ shsSmall ss' ∧ docsSmall ds' ∧ agree ss' k' ds' = v) =>
          (show Calls Try.prog 21 #[.agg #[.slice A' n' c', .int .i64 k', .slice D' m' d']] (wext U X) fun e w' => e = .returned (.bool v) ∧ ∃ y, w' = wext U y by
            obtain ⟨ss', ds', h1, h2, h3, h4, h5, h6, h7⟩ := h
            have := specBooksAgree A' n' c' k' D' m' d' ss' ds' (wext U X) (h1.below (below_wext _ _)) (h2.below (below_wext _ _)) h3 h4 h5 h6
            rw [h7] at this
            exact ext_call this))
        have p30 := cell_wext (blk_at P3.out (j := 0) rfl); have p31 := cell_wext (blk_at P3.out (j := 1) rfl); have p32 := cell_wext (blk_at P3.out (j := 2) rfl)
        have p50 := cell_wext (blk_at P5.out (j := 0) rfl); have p51 := cell_wext (blk_at P5.out (j := 1) rfl); have p52 := cell_wext (blk_at P5.out (j := 2) rfl)
        cases hag : agree ss k ds
        · have XG1 := Lib.hid (show ∃ ss' ds', ShelvesR U A1 n1 ss' ∧ DocsR U D1 m1 ds' ∧ n1 ≤ 1048600 ∧ m1 ≤ 1048600 ∧ shsSmall ss' ∧ docsSmall ds' ∧ agree ss' k ds' = false from ⟨ss, ds, HS1.out, HD1.out, hn1, hm1, SM.out.2.2.1, SM.out.2.2.2, hag⟩)
          clear hag
          refine wp_region_ext (by kernel_rfl) (by kernel_rfl) ?_
          repeat (go_big_quiet_step ((go_at_call 21; exact HG.out _ _ _ _ _ _ _ _ _ XG1.out)))
          refine wpQuiet_nil ?_
          intro _ hw'; obtain ⟨ny, hw''⟩ := hw'; subst hw''
          have BE := below_then B3.out (below_wext U ny)
          go_wp2_with fail
          go_ret
          exact ⟨rfl, BE⟩
        · obtain ⟨g2, g3⟩ := Y5.out hag
          have XG1 := Lib.hid (show ∃ ss' ds', ShelvesR U A1 n1 ss' ∧ DocsR U D1 m1 ds' ∧ n1 ≤ 1048600 ∧ m1 ≤ 1048600 ∧ shsSmall ss' ∧ docsSmall ds' ∧ agree ss' k ds' = true from ⟨ss, ds, HS1.out, HD1.out, hn1, hm1, SM.out.2.2.1, SM.out.2.2.2, hag⟩)
          have XG2 := Lib.hid (show ∃ ss' ds', ShelvesR U A2 n2 ss' ∧ DocsR U D2 m2 ds' ∧ n2 ≤ 1048600 ∧ m2 ≤ 1048600 ∧ shsSmall ss' ∧ docsSmall ds' ∧ agree ss' k2 ds' = true from ⟨ss2, ds2, HS2.out, HD2.out, hn2, hm2, SM2.out.2.2.1, SM2.out.2.2.2, g2⟩)
          have HI := Lib.hid (fun (X : WX) => (show Calls Try.prog 22 #[.agg #[.slice A2 n2 c2, .int .i64 k2, .slice D2 m2 d2]] (wext U X) fun e w' => e = .returned (.bool true) ∧ ∃ y, w' = wext U y by
            have := implBooksAgree A2 n2 c2 k2 D2 m2 d2 ss2 ds2 (wext U X) (HS2.out.below (below_wext _ _)) (HD2.out.below (below_wext _ _)) hn2 hm2 SM2.out.2.2.1 SM2.out.2.2.2
            rw [g2] at this
            exact ext_call this))
          have HW := Lib.hid (fun (X : WX) => (show Calls Try.prog 18 #[.agg #[.slice A2 n2 c2, .int .i64 k2, .slice D2 m2 d2]] (wext U X) fun e w' => e = .returned (.int .i64 (stockW ss2 k2 ds2)) ∧ ∃ y, w' = wext U y from
            ext_call (implStockWorth A2 n2 c2 k2 D2 m2 d2 ss2 ds2 (wext U X) (HS2.out.below (below_wext _ _)) (HD2.out.below (below_wext _ _)) hn2 hm2 SM2.out.2.2.1 SM2.out.2.2.2)))
          have HB := Lib.hid (fun (X : WX) => (show Calls Try.prog 32 #[.slice D2 m2 d2, .string ⟨#[83, 84, 79, 67, 75]⟩, .int .i64 999] (wext U X) fun e w' => e = .returned (.int .i64 (stockW ss2 k2 ds2)) ∧ ∃ y, w' = wext U y by
            have := specBalance D2 m2 d2 ds2 tStock 999 (wext U X) (HD2.out.below (below_wext _ _)) hm2 SM2.out.2.2.2
            rw [← g3] at this
            exact ext_call this))
          clear hag g2 g3
          refine wp_region_ext (by kernel_rfl) (by kernel_rfl) ?_
          repeat (go_big_quiet_step (first | (go_at_call 21; exact HG.out _ _ _ _ _ _ _ _ _ (by first | exact XG1.out | exact XG2.out)) | (go_at_call 22; exact HI.out _) | (go_at_call 18; exact HW.out _) | (go_at_call 32; exact HB.out _)))
          refine wpQuiet_nil ?_
          intro _ hw'; obtain ⟨ny, hw''⟩ := hw'; subst hw''
          have BE := below_then B3.out (below_wext U ny)
          go_wp2_with fail
          go_ret
          exact ⟨rfl, BE⟩
      focus
        go_upto_region 15 with fail
        have wn : IntKind.i64.wrap (so + 0) = so + 0 := IntWalk.i64_in _ (by omega)
        clear p42 p44 wq
        have HA := Lib.hid (fun (X : WX) (A' : Option Addr) (n' c' : Nat) (k' : Int) (D' : Option Addr) (m' d' : Nat) (h : ∃ ss' ds', ShelvesR V A' n' ss' ∧ DocsR V D' m' ds' ∧ n' ≤ 1048600 ∧ m' ≤ 1048600 ∧ shsSmall ss' ∧ docsSmall ds' ∧ areBk ss' k' ds' = true) =>
          (show Calls Try.prog 15 #[.agg #[.slice A' n' c', .int .i64 k', .slice D' m' d']] (wext V X) fun e w' => e = .returned (.bool true) ∧ ∃ y, w' = wext V y by
            obtain ⟨ss', ds', h1, h2, h3, h4, h5, h6, h7⟩ := h
            have := specAreBooks A' n' c' k' D' m' d' ss' ds' (wext V X) (h1.below (below_wext _ _)) (h2.below (below_wext _ _)) h3 h4 h5 h6
            rw [h7] at this
            exact ext_call this))
        have HO := Lib.hid (fun (X : WX) (A' : Option Addr) (n' c' : Nat) (k' : Int) (D' : Option Addr) (m' d' : Nat) (v : Int) (h : ∃ ss' ds', ShelvesR V A' n' ss' ∧ DocsR V D' m' ds' ∧ n' ≤ 1048600 ∧ m' ≤ 1048600 ∧ shsSmall ss' ∧ docsSmall ds' ∧ onShelf ss' k' ds' item = v) =>
          (show Calls Try.prog 20 #[.agg #[.slice A' n' c', .int .i64 k', .slice D' m' d'], .string item] (wext V X) fun e w' => e = .returned (.int .i64 v) ∧ ∃ y, w' = wext V y by
            obtain ⟨ss', ds', h1, h2, h3, h4, h5, h6, h7⟩ := h
            have := implOnShelf A' n' c' k' D' m' d' ss' ds' item (wext V X) (h1.below (below_wext _ _)) (h2.below (below_wext _ _)) h3 h4 h5 h6
            rw [h7] at this
            exact ext_call this))
        have HI := Lib.hid (fun (X : WX) =>
          (show Calls Try.prog 31 #[evAgg ⟨id, day, 5, item, q, a, r⟩] (wext V X) fun e w' => e = .returned (.bool true) ∧ ∃ y, w' = wext V y by
            have := specIsEvent ⟨id, day, 5, item, q, a, r⟩ (wext V X) (by simp only; omega)
            rw [Y2.out] at this
            exact ext_call this))
        have XA1 := Lib.hid (show ∃ ss' ds', ShelvesR V A1 n1 ss' ∧ DocsR V D1 m1 ds' ∧ n1 ≤ 1048600 ∧ m1 ≤ 1048600 ∧ shsSmall ss' ∧ docsSmall ds' ∧ areBk ss' k ds' = true from ⟨ss, ds, HS1.out, HD1.out, hn1, hm1, SM.out.2.2.1, SM.out.2.2.2, Y1.out⟩)
        have XA2 := Lib.hid (show ∃ ss' ds', ShelvesR V A2 n2 ss' ∧ DocsR V D2 m2 ds' ∧ n2 ≤ 1048600 ∧ m2 ≤ 1048600 ∧ shsSmall ss' ∧ docsSmall ds' ∧ areBk ss' k2 ds' = true from ⟨ss2, ds2, HS2.out, HD2.out, hn2, hm2, SM2.out.2.2.1, SM2.out.2.2.2, Y3.out⟩)
        have XO1 := Lib.hid (show ∃ ss' ds', ShelvesR V A1 n1 ss' ∧ DocsR V D1 m1 ds' ∧ n1 ≤ 1048600 ∧ m1 ≤ 1048600 ∧ shsSmall ss' ∧ docsSmall ds' ∧ onShelf ss' k ds' item = so from ⟨ss, ds, HS1.out, HD1.out, hn1, hm1, SM.out.2.2.1, SM.out.2.2.2, HSO.out.symm⟩)
        have XO2 := Lib.hid (show ∃ ss' ds', ShelvesR V A2 n2 ss' ∧ DocsR V D2 m2 ds' ∧ n2 ≤ 1048600 ∧ m2 ≤ 1048600 ∧ shsSmall ss' ∧ docsSmall ds' ∧ onShelf ss' k2 ds' item = _ from ⟨ss2, ds2, HS2.out, HD2.out, hn2, hm2, SM2.out.2.2.1, SM2.out.2.2.2, Y4.out⟩)
        have p30 := cell_wext (blk_at P3.out (j := 0) rfl); have p31 := cell_wext (blk_at P3.out (j := 1) rfl); have p32 := cell_wext (blk_at P3.out (j := 2) rfl)
        have p50 := cell_wext (blk_at P5.out (j := 0) rfl); have p51 := cell_wext (blk_at P5.out (j := 1) rfl); have p52 := cell_wext (blk_at P5.out (j := 2) rfl)
        have p40 := cell_wext (blk_at P4.out (j := 0) rfl); have p41 := cell_wext (blk_at P4.out (j := 1) rfl); have p42 := cell_wext (blk_at P4.out (j := 2) rfl); have p43 := cell_wext (blk_at P4.out (j := 3) rfl); have p44 := cell_wext (blk_at P4.out (j := 4) rfl); have p45 := cell_wext (blk_at P4.out (j := 5) rfl); have p46 := cell_wext (blk_at P4.out (j := 6) rfl)
        refine wp_region_ext (by kernel_rfl) (by kernel_rfl) ?_
        repeat (go_big_quiet_step (first | (go_at_call 15; exact HA.out _ _ _ _ _ _ _ _ (by first | exact XA1.out | exact XA2.out)) | (go_at_call 31; exact HI.out _) | (go_at_call 20; exact HO.out _ _ _ _ _ _ _ _ _ (by first | exact XO1.out | exact XO2.out))))
        refine wpQuiet_nil ?_
        intro _ hw'; obtain ⟨nz, hw''⟩ := hw'; subst hw''
        have bz := below_wext V nz
        obtain ⟨U, hU⟩ : ∃ U, U = wext V nz := ⟨_, rfl⟩
        rw [← hU] at bz ⊢
        replace P3 := Lib.hid (blk_keep bz P3.out); replace P5 := Lib.hid (blk_keep bz P5.out)
        replace HS1 := Lib.hid (HS1.out.below bz); replace HD1 := Lib.hid (HD1.out.below bz); replace HS2 := Lib.hid (HS2.out.below bz); replace HD2 := Lib.hid (HD2.out.below bz)
        replace B3 := Lib.hid (below_then B3.out bz)
        clear HA HO HI XA1 XA2 XO1 XO2 p30 p31 p32 p50 p51 p52 p40 p41 p42 p43 p44 p45 p46 wn P4 hU bz Y1 Y2 Y3 Y4 HSO
        go_upto_region 17 with fail
        have HG := Lib.hid (fun (X : WX) (A' : Option Addr) (n' c' : Nat) (k' : Int) (D' : Option Addr) (m' d' : Nat) (v : Bool) (h : ∃ ss' ds', ShelvesR U A' n' ss' ∧ DocsR U D' m' ds' ∧ n' ≤ 1048600 ∧ m' ≤ 1048600 ∧ shsSmall ss' ∧ docsSmall ds' ∧ agree ss' k' ds' = v) =>
          (show Calls Try.prog 21 #[.agg #[.slice A' n' c', .int .i64 k', .slice D' m' d']] (wext U X) fun e w' => e = .returned (.bool v) ∧ ∃ y, w' = wext U y by
            obtain ⟨ss', ds', h1, h2, h3, h4, h5, h6, h7⟩ := h
            have := specBooksAgree A' n' c' k' D' m' d' ss' ds' (wext U X) (h1.below (below_wext _ _)) (h2.below (below_wext _ _)) h3 h4 h5 h6
            rw [h7] at this
            exact ext_call this))
        have p30 := cell_wext (blk_at P3.out (j := 0) rfl); have p31 := cell_wext (blk_at P3.out (j := 1) rfl); have p32 := cell_wext (blk_at P3.out (j := 2) rfl)
        have p50 := cell_wext (blk_at P5.out (j := 0) rfl); have p51 := cell_wext (blk_at P5.out (j := 1) rfl); have p52 := cell_wext (blk_at P5.out (j := 2) rfl)
        cases hag : agree ss k ds
        · have XG1 := Lib.hid (show ∃ ss' ds', ShelvesR U A1 n1 ss' ∧ DocsR U D1 m1 ds' ∧ n1 ≤ 1048600 ∧ m1 ≤ 1048600 ∧ shsSmall ss' ∧ docsSmall ds' ∧ agree ss' k ds' = false from ⟨ss, ds, HS1.out, HD1.out, hn1, hm1, SM.out.2.2.1, SM.out.2.2.2, hag⟩)
          clear hag
          refine wp_region_ext (by kernel_rfl) (by kernel_rfl) ?_
          repeat (go_big_quiet_step ((go_at_call 21; exact HG.out _ _ _ _ _ _ _ _ _ XG1.out)))
          refine wpQuiet_nil ?_
          intro _ hw'; obtain ⟨ny, hw''⟩ := hw'; subst hw''
          have BE := below_then B3.out (below_wext U ny)
          go_wp2_with fail
          go_ret
          exact ⟨rfl, BE⟩
        · obtain ⟨g2, g3⟩ := Y5.out hag
          have XG1 := Lib.hid (show ∃ ss' ds', ShelvesR U A1 n1 ss' ∧ DocsR U D1 m1 ds' ∧ n1 ≤ 1048600 ∧ m1 ≤ 1048600 ∧ shsSmall ss' ∧ docsSmall ds' ∧ agree ss' k ds' = true from ⟨ss, ds, HS1.out, HD1.out, hn1, hm1, SM.out.2.2.1, SM.out.2.2.2, hag⟩)
          have XG2 := Lib.hid (show ∃ ss' ds', ShelvesR U A2 n2 ss' ∧ DocsR U D2 m2 ds' ∧ n2 ≤ 1048600 ∧ m2 ≤ 1048600 ∧ shsSmall ss' ∧ docsSmall ds' ∧ agree ss' k2 ds' = true from ⟨ss2, ds2, HS2.out, HD2.out, hn2, hm2, SM2.out.2.2.1, SM2.out.2.2.2, g2⟩)
          have HI := Lib.hid (fun (X : WX) => (show Calls Try.prog 22 #[.agg #[.slice A2 n2 c2, .int .i64 k2, .slice D2 m2 d2]] (wext U X) fun e w' => e = .returned (.bool true) ∧ ∃ y, w' = wext U y by
            have := implBooksAgree A2 n2 c2 k2 D2 m2 d2 ss2 ds2 (wext U X) (HS2.out.below (below_wext _ _)) (HD2.out.below (below_wext _ _)) hn2 hm2 SM2.out.2.2.1 SM2.out.2.2.2
            rw [g2] at this
            exact ext_call this))
          have HW := Lib.hid (fun (X : WX) => (show Calls Try.prog 18 #[.agg #[.slice A2 n2 c2, .int .i64 k2, .slice D2 m2 d2]] (wext U X) fun e w' => e = .returned (.int .i64 (stockW ss2 k2 ds2)) ∧ ∃ y, w' = wext U y from
            ext_call (implStockWorth A2 n2 c2 k2 D2 m2 d2 ss2 ds2 (wext U X) (HS2.out.below (below_wext _ _)) (HD2.out.below (below_wext _ _)) hn2 hm2 SM2.out.2.2.1 SM2.out.2.2.2)))
          have HB := Lib.hid (fun (X : WX) => (show Calls Try.prog 32 #[.slice D2 m2 d2, .string ⟨#[83, 84, 79, 67, 75]⟩, .int .i64 999] (wext U X) fun e w' => e = .returned (.int .i64 (stockW ss2 k2 ds2)) ∧ ∃ y, w' = wext U y by
            have := specBalance D2 m2 d2 ds2 tStock 999 (wext U X) (HD2.out.below (below_wext _ _)) hm2 SM2.out.2.2.2
            rw [← g3] at this
            exact ext_call this))
          clear hag g2 g3
          refine wp_region_ext (by kernel_rfl) (by kernel_rfl) ?_
          repeat (go_big_quiet_step (first | (go_at_call 21; exact HG.out _ _ _ _ _ _ _ _ _ (by first | exact XG1.out | exact XG2.out)) | (go_at_call 22; exact HI.out _) | (go_at_call 18; exact HW.out _) | (go_at_call 32; exact HB.out _)))
          refine wpQuiet_nil ?_
          intro _ hw'; obtain ⟨ny, hw''⟩ := hw'; subst hw''
          have BE := below_then B3.out (below_wext U ny)
          go_wp2_with fail
          go_ret
          exact ⟨rfl, BE⟩
    · obtain ⟨e1, e2, e3⟩ : ss2 = ss ∧ k2 = k ∧ ds2 = ds := by
        have h := NO.out hc
        injection h with h1 h2 h3
        exact ⟨h1, h2, h3⟩
      subst e1 e2 e3
      have hn2 : n2 ≤ 1048600 := by rw [← ql]; exact SM.out.1
      have hm2 : m2 ≤ 1048600 := by rw [← qm]; exact SM.out.2.1
      have SB := Lib.hid (show sameBk ss2 ss2 k2 k2 ds2 ds2 = true by simp [sameBk])
      have OK1 := Lib.hid (show ∀ s ∈ ss2, shOk s from fun s hs => by have := SM.out.2.2.1 s hs; unfold shOk; omega)
      have OK2 := Lib.hid (show ∀ d ∈ ds2, d.ents.length ≤ 1048600 from fun d hd => (SM.out.2.2.2 d hd).1)
      clear NO YES ql qm
      go_upto_region 6 with fail
      obtain ⟨V, hV⟩ : ∃ V, V = w2.alloc (Obj.cells #[.slice A2 n2 c2, .int .i64 k2, .slice D2 m2 d2] 31) := ⟨_, rfl⟩
      rw [← hV] at HS1 HD1 HS2 HD2 P3 P4 P5 B3 ⊢
      clear hV bX
      have p30 := blk_at P3.out (j := 0) rfl; have p31 := blk_at P3.out (j := 1) rfl; have p32 := blk_at P3.out (j := 2) rfl
      have p50 := blk_at P5.out (j := 0) rfl; have p51 := blk_at P5.out (j := 1) rfl; have p52 := blk_at P5.out (j := 2) rfl
      go_wp2_with fail
      refine (implSameBooks A2 n2 c2 k2 D2 m2 d2 ss2 ds2 A1 n1 c1 k2 D1 m1 d1 ss2 ds2 V HS2.out HD2.out HS1.out HD1.out hn2 hm2 hn1 hm1 OK1.out OK1.out OK2.out OK2.out).mono ?_; rw [SB.out]; rintro e w4 ⟨rfl, hb4⟩
      replace p30 := cell_keep hb4 p30; replace p31 := cell_keep hb4 p31; replace p32 := cell_keep hb4 p32; replace p50 := cell_keep hb4 p50; replace p51 := cell_keep hb4 p51; replace p52 := cell_keep hb4 p52
      replace HS1 := Lib.hid (HS1.out.below hb4); replace HD1 := Lib.hid (HD1.out.below hb4); replace HS2 := Lib.hid (HS2.out.below hb4); replace HD2 := Lib.hid (HD2.out.below hb4)
      have B4 := Lib.hid (below_then B3.out hb4)
      clear hb4 B3
      go_wp2_with fail
      refine (specSameBooks A2 n2 c2 k2 D2 m2 d2 ss2 ds2 A1 n1 c1 k2 D1 m1 d1 ss2 ds2 w4 HS2.out HD2.out HS1.out HD1.out hn2 hm2 hn1 hm1 OK1.out OK1.out OK2.out OK2.out).mono ?_; rw [SB.out]; rintro e w5 ⟨rfl, hb5⟩
      go_wp2_with fail
      go_ret
      exact ⟨rfl, below_then B4.out hb5⟩
set_option maxRecDepth 100000 in
theorem lifted (os : Os) (started : os.Started) (H : Type) (enc : TypeId × Value → H) :
    ReturnsInHanded {} Try.checked os 9 .any (Rows.fnBookedSpec.pre6 enc Try.prog Try.f9 Rows.fnBookedRow.domain false) (Rows.fnBookedSpec.post enc Try.prog Try.f9 false true false false) := by
  refine returnsInHanded_of_change (C := Try.checked) Try.own started (by kernel_rfl) Try.func9
    (ChangeSpec.witness6 (enc := enc) (C := Try.checked) false ⟨#[], #[.slice none 0 0], []⟩ 8 (by kernel_rfl) (by kernel_rfl) (by kernel_rfl) (by kernel_rfl)) ?_
  intro W base args ds gs before hval0 hW hcnd _
  have hval : ∀ (j : Nat) t v, Try.f9.params[j]? = some t → args[j]? = some v → Value.okWide Try.prog W .any base t v := hval0
  have hW' := hW
  obtain ⟨p, q, hA0, hV, rfl, hfz, hnd⟩ := hW
  have hA : DataW.TrodAll enc Try.prog W 0 (fun _ => true) true Try.f9.params.toList args.toList ds p := hA0
  rw [Try.params9] at hA hval
  obtain ⟨v0, vs0, d0, ds0, p0, q0, hargs, rfl, rfl, h0, r0⟩ := trodAll_cons hA
  obtain ⟨rfl, rfl, rfl⟩ := trodAll_nil r0
  obtain rfl : args = #[v0] := by cases args; simp_all
  obtain ⟨rfl, rfl⟩ := trodVars_none hV
  obtain ⟨Acode, ncode, ccode, code, rfl, hrcode, hncode, hokcode⟩ := open_bytes (hval 0 48 v0 rfl rfl) h0
  refine (walk W Acode ncode ccode code hrcode hncode hokcode).mono fun e W' ⟨he, hb⟩ => ?_
  subst he
  exact ⟨_, rfl, law_post Try.laidOut (by kernel_rfl) (by kernel_rfl) Try.underlying4 hW' rfl ⟨rfl, rfl, rfl⟩ hb⟩

theorem proved : Rows.FnBookedSaid :=
  OpenClaim.holds_of_wide 9 Try.f9 rfl rfl rfl rfl rfl rfl rfl ⟨rfl, rfl, rfl, rfl, rfl⟩ rfl rfl rfl rfl rfl (by kernel_rfl) Try.func9 (by kernel_rfl)
    (of_decide_eq_true (by kernel_rfl)) (by unfold Func.isWrapper; first | (rw [if_pos (by decide +kernel)]; kernel_rfl) | (rw [if_neg (by decide +kernel)]; exact ⟨rfl, rfl⟩))
    (fun os started H enc _ => lifted os started H enc)
#print axioms proved
end Go.Proofs.Ytlgodbjbllpipaa.fnBooked
