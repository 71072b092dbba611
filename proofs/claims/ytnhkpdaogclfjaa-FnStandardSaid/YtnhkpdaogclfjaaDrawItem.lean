/- The walks of the drawing of items. No condition. -/
import Derived.Test.YtnhkpdaogclfjaaDrawWhen
import Derived.Test.YtnhkpdaogclfjaaSItem
namespace Go.Proofs.Ytnhkpdaogclfjaa
open Go.ChangeShapes Go.WideShapes Go.ChangeAt Go.RowKit

/-- An item in the making: the result's cell, the box, the cursor. -/
structure ItW (w : World) (g r x : Nat) (w' : World) (y : It) : Prop where
  gx : g < w.heap.size
  wr : w.heap.size ≤ r
  wx : w.heap.size ≤ x
  ne : r ≠ x
  sr : r < w'.heap.size
  sx : x < w'.heap.size
  res : w'.heap[r]? = some (.cells #[.string ⟨#[]⟩, .string ⟨#[]⟩, .int .i64 0, .int .i64 0, .int .i64 0, .int .i64 0, .int .i64 0, .int .i64 0] 64 (0, 0))
  box : w'.heap[x]? = some (.cells #[Value.string y.code, .string y.unit, .int .i64 y.kind, .int .i64 y.lead, .int .i64 y.rule, .int .i64 y.size, .int .i64 y.safety, .int .i64 y.scrap] 64 (0, 0))
  gr : w.grownBy w' (some g)
  cur : Cur w' g
  ok : itOk y
namespace ItW
variable {w w1 w2 : World} {g r x : Nat} {y : It}
theorem call (h : ItW w g r x w1 y) (hg : w1.grownBy w2 (some g)) (hc : Cur w2 g) : ItW w g r x w2 y :=
  ⟨h.gx, h.wr, h.wx, h.ne, Nat.lt_of_lt_of_le h.sr hg.size, Nat.lt_of_lt_of_le h.sx hg.size, blk_grown hg h.res (by have := h.gx; have := h.wr; omega), blk_grown hg h.box (by have := h.gx; have := h.wx; omega), h.gr.trans hg, hc, h.ok⟩
theorem below (h : ItW w g r x w1 y) (hb : Below w1.heap.size w1 w2) : ItW w g r x w2 y :=
  ⟨h.gx, h.wr, h.wx, h.ne, Nat.lt_of_lt_of_le h.sr hb.size, Nat.lt_of_lt_of_le h.sx hb.size, blk_keep hb h.res, blk_keep hb h.box, grown_below h.gr hb, h.cur.below hb, h.ok⟩
theorem put (h : ItW w g r x w1 y) (y' : It) (j : Nat) (v : Value) (hk : itOk y')
    (hs : (#[Value.string y.code, .string y.unit, .int .i64 y.kind, .int .i64 y.lead, .int .i64 y.rule, .int .i64 y.size, .int .i64 y.safety, .int .i64 y.scrap] : Array Value).setIfInBounds j v = #[Value.string y'.code, .string y'.unit, .int .i64 y'.kind, .int .i64 y'.lead, .int .i64 y'.rule, .int .i64 y'.size, .int .i64 y'.safety, .int .i64 y'.scrap]) : ItW w g r x (w1.setCell ⟨x, j, none⟩ v) y' :=
  ⟨h.gx, h.wr, h.wx, h.ne, by simpa [World.setCell] using h.sr, by simpa [World.setCell] using h.sx, (Below.heap_setCell w1 ⟨x, j, none⟩ v r (by have := h.ne; simp only; omega)).trans h.res,
    by have k := heap_setCell_same w1 x j _ _ v h.box; rw [hs] at k; exact k,
    grown_setNew' h.gr (by have := h.wx; simp only; omega) v, cur_setNew' h.cur (by have := h.gx; have := h.wx; simp only; omega) v, hk⟩
theorem code (h : ItW w g r x w1 y) (v : ByteArray) (hv : v.size ≤ 9223372036854775807) : ItW w g r x (w1.setCell ⟨x, 0, none⟩ (.string v)) { y with code := v } := h.put _ 0 _ ⟨hv, h.ok.2.1, h.ok.2.2.1, h.ok.2.2.2.1, h.ok.2.2.2.2.1, h.ok.2.2.2.2.2.1, h.ok.2.2.2.2.2.2.1, h.ok.2.2.2.2.2.2.2⟩ rfl
theorem unit (h : ItW w g r x w1 y) (v : ByteArray) (hv : v.size ≤ 9223372036854775807) : ItW w g r x (w1.setCell ⟨x, 1, none⟩ (.string v)) { y with unit := v } := h.put _ 1 _ ⟨h.ok.1, hv, h.ok.2.2.1, h.ok.2.2.2.1, h.ok.2.2.2.2.1, h.ok.2.2.2.2.2.1, h.ok.2.2.2.2.2.2.1, h.ok.2.2.2.2.2.2.2⟩ rfl
theorem kind (h : ItW w g r x w1 y) (v : Int) (hv : i64 v) : ItW w g r x (w1.setCell ⟨x, 2, none⟩ (.int .i64 v)) { y with kind := v } := h.put _ 2 _ ⟨h.ok.1, h.ok.2.1, hv, h.ok.2.2.2.1, h.ok.2.2.2.2.1, h.ok.2.2.2.2.2.1, h.ok.2.2.2.2.2.2.1, h.ok.2.2.2.2.2.2.2⟩ rfl
theorem lead (h : ItW w g r x w1 y) (v : Int) (hv : i64 v) : ItW w g r x (w1.setCell ⟨x, 3, none⟩ (.int .i64 v)) { y with lead := v } := h.put _ 3 _ ⟨h.ok.1, h.ok.2.1, h.ok.2.2.1, hv, h.ok.2.2.2.2.1, h.ok.2.2.2.2.2.1, h.ok.2.2.2.2.2.2.1, h.ok.2.2.2.2.2.2.2⟩ rfl
theorem rule (h : ItW w g r x w1 y) (v : Int) (hv : i64 v) : ItW w g r x (w1.setCell ⟨x, 4, none⟩ (.int .i64 v)) { y with rule := v } := h.put _ 4 _ ⟨h.ok.1, h.ok.2.1, h.ok.2.2.1, h.ok.2.2.2.1, hv, h.ok.2.2.2.2.2.1, h.ok.2.2.2.2.2.2.1, h.ok.2.2.2.2.2.2.2⟩ rfl
theorem size (h : ItW w g r x w1 y) (v : Int) (hv : i64 v) : ItW w g r x (w1.setCell ⟨x, 5, none⟩ (.int .i64 v)) { y with size := v } := h.put _ 5 _ ⟨h.ok.1, h.ok.2.1, h.ok.2.2.1, h.ok.2.2.2.1, h.ok.2.2.2.2.1, hv, h.ok.2.2.2.2.2.2.1, h.ok.2.2.2.2.2.2.2⟩ rfl
theorem safety (h : ItW w g r x w1 y) (v : Int) (hv : i64 v) : ItW w g r x (w1.setCell ⟨x, 6, none⟩ (.int .i64 v)) { y with safety := v } := h.put _ 6 _ ⟨h.ok.1, h.ok.2.1, h.ok.2.2.1, h.ok.2.2.2.1, h.ok.2.2.2.2.1, h.ok.2.2.2.2.2.1, hv, h.ok.2.2.2.2.2.2.2⟩ rfl
theorem scrap (h : ItW w g r x w1 y) (v : Int) (hv : i64 v) : ItW w g r x (w1.setCell ⟨x, 7, none⟩ (.int .i64 v)) { y with scrap := v } := h.put _ 7 _ ⟨h.ok.1, h.ok.2.1, h.ok.2.2.1, h.ok.2.2.2.1, h.ok.2.2.2.2.1, h.ok.2.2.2.2.2.1, h.ok.2.2.2.2.2.2.1, hv⟩ rfl
theorem at_ (h : ItW w g r x w1 y) (j : Nat) (v : Value) (hj : (#[Value.string y.code, .string y.unit, .int .i64 y.kind, .int .i64 y.lead, .int .i64 y.rule, .int .i64 y.size, .int .i64 y.safety, .int .i64 y.scrap] : Array Value)[j]? = some v) : w1.cell? ⟨x, j, none⟩ = some v := blk_at h.box hj
theorem free (h : ItW w g r x w1 y) (j : Nat) : w1.frozen? ⟨x, j, none⟩ = false := blk_free h.box j
theorem fin (h : ItW w g r x w1 y) (v0 v1 v2 v3 v4 v5 v6 v7 : Value) : w.grownBy ((((((((w1.setCell ⟨r, 0, none⟩ v0).setCell ⟨r, 1, none⟩ v1).setCell ⟨r, 2, none⟩ v2).setCell ⟨r, 3, none⟩ v3).setCell ⟨r, 4, none⟩ v4).setCell ⟨r, 5, none⟩ v5).setCell ⟨r, 6, none⟩ v6).setCell ⟨r, 7, none⟩ v7) (some g) ∧ Cur ((((((((w1.setCell ⟨r, 0, none⟩ v0).setCell ⟨r, 1, none⟩ v1).setCell ⟨r, 2, none⟩ v2).setCell ⟨r, 3, none⟩ v3).setCell ⟨r, 4, none⟩ v4).setCell ⟨r, 5, none⟩ v5).setCell ⟨r, 6, none⟩ v6).setCell ⟨r, 7, none⟩ v7) g :=
  ⟨grown_setNew' (grown_setNew' (grown_setNew' (grown_setNew' (grown_setNew' (grown_setNew' (grown_setNew' (grown_setNew' (h.gr) h.wr _) h.wr _) h.wr _) h.wr _) h.wr _) h.wr _) h.wr _) h.wr _, cur_setNew' (cur_setNew' (cur_setNew' (cur_setNew' (cur_setNew' (cur_setNew' (cur_setNew' (cur_setNew' (h.cur) (Nat.lt_of_lt_of_le h.gx h.wr) _) (Nat.lt_of_lt_of_le h.gx h.wr) _) (Nat.lt_of_lt_of_le h.gx h.wr) _) (Nat.lt_of_lt_of_le h.gx h.wr) _) (Nat.lt_of_lt_of_le h.gx h.wr) _) (Nat.lt_of_lt_of_le h.gx h.wr) _) (Nat.lt_of_lt_of_le h.gx h.wr) _) (Nat.lt_of_lt_of_le h.gx h.wr) _⟩
end ItW
def DrawnIt (g : Nat) (w : World) (e' : Ending) (w' : World) : Prop := ∃ y : It, e' = .returned (itAgg y) ∧ itOk y ∧ w.grownBy w' (some g) ∧ Cur w' g
set_option maxRecDepth 100000 in
set_option maxHeartbeats 4000000 in
theorem l8Item_any (g : Nat) (code : ByteArray) (w : World) (hc : Cur w g) (hs : code.size ≤ 9223372036854775807) :
    Calls Try.prog 89 #[.pointer (some ⟨g, 0, none⟩), .string code] w (DrawnIt g w) := by
  have hlt := hc.lt
  go_enter Try.func89, Try.ntmps89
  go_wp2_with fail
  refine (l1PickInt_any g _ _ _ [0, 1, 1, 2] _ ((hc.below (below_box _ _)).below (below_box _ _)) (RS_new2 (by simp)) (by simp [i64]) (by omega) (by omega) (fun a e => by injection e with e; subst e; simp; omega)).mono ?_; rintro e V1 ⟨kind, rfl, hkind, hg1, C1⟩
  have H1 := Lib.hid (blk_grown hg1 (blk_alloc (blk_new1 w _) _) (by omega))
  have G1 := ((World.grownBy_alloc w _ (some g)).trans (World.grownBy_alloc _ _ (some g))).trans hg1
  have z1 : w.heap.size < V1.heap.size := (Array.getElem?_eq_some_iff.1 H1.out).1
  clear hg1 hc
  go_wp2_with fail
  refine (l1Below_any g _ _ C1 (by omega)).mono ?_; rintro e V2 ⟨lead, rfl, hl0, hl1, -, hg2, C2⟩
  have H2 := Lib.hid (blk_grown hg2 (H1.out) (by omega))
  have G2 := G1.trans hg2
  have z2 : w.heap.size < V2.heap.size := (Array.getElem?_eq_some_iff.1 H2.out).1
  clear hg2 C1 G1 H1 z1
  go_wp2_with fail
  refine (l1PickInt_any g _ _ _ [0, 0, 0, 5] _ (C2.below (below_box _ _)) (RS_new (by simp)) (by simp [i64]) (by omega) (by omega) (fun a e => by injection e with e; subst e; show V2.heap.size ≠ g; omega)).mono ?_; rintro e V3 ⟨safety, rfl, hsafety, hg3, C3⟩
  have H3 := Lib.hid (blk_grown hg3 (blk_alloc H2.out _) (by omega))
  have G3 := (G2.trans (World.grownBy_alloc V2 _ (some g))).trans hg3
  have z3 : w.heap.size < V3.heap.size := (Array.getElem?_eq_some_iff.1 H3.out).1
  clear hg3 C2 G2 H2 z2
  go_wp2_with fail
  refine (l1PickInt_any g _ _ _ [0, 0, 0, 10, 50] _ (C3.below (below_box _ _)) (RS_new (by simp)) (by simp [i64]) (by omega) (by omega) (fun a e => by injection e with e; subst e; show V3.heap.size ≠ g; omega)).mono ?_; rintro e V4 ⟨scrap, rfl, hscrap, hg4, C4⟩
  have H4 := Lib.hid (blk_grown hg4 (blk_alloc H3.out _) (by omega))
  have G4 := (G3.trans (World.grownBy_alloc V3 _ (some g))).trans hg4
  have z4 : w.heap.size < V4.heap.size := (Array.getElem?_eq_some_iff.1 H4.out).1
  clear hg4 C3 G3 H3 z3
  have E5 : ItW w g w.heap.size V4.heap.size (V4.alloc (Obj.cells #[.string code, .string ⟨#[80, 67]⟩, .int .i64 kind, .int .i64 lead, .int .i64 0, .int .i64 0, .int .i64 safety, .int .i64 scrap] 64)) ⟨code, ⟨#[80, 67]⟩, kind, lead, 0, 0, safety, scrap⟩ :=
    ⟨hlt, Nat.le_refl _, by omega, by omega, by simp; omega, by simp, blk_alloc H4.out _, blk_new1 _ _, G4.trans (World.grownBy_alloc V4 _ (some g)), C4.below (below_box _ _), ⟨hs, (by decide : (ByteArray.mk #[80, 67]).size ≤ 9223372036854775807), hkind, ⟨by simp only; omega, by simp only; omega⟩, ⟨by simp, by simp⟩, ⟨by simp, by simp⟩, hsafety, hscrap⟩⟩
  clear C4 G4 H4
  go_upto_region 2 with fail
  obtain ⟨x, hx⟩ : ∃ x, x = V4.heap.size := ⟨_, rfl⟩
  rw [← hx] at E5 ⊢
  obtain ⟨V, hV⟩ : ∃ V, V = V4.alloc (Obj.cells #[.string code, .string ⟨#[80, 67]⟩, .int .i64 kind, .int .i64 lead, .int .i64 0, .int .i64 0, .int .i64 safety, .int .i64 scrap] 64) := ⟨_, rfl⟩
  rw [← hV] at E5 ⊢
  clear hV hx z4
  go_wp2_with fail
  refine (l1Once_any g _ _ E5.cur (by omega)).mono ?_; rintro e V6 ⟨b, rfl, hg6, C6⟩
  have E6 := E5.call hg6 C6
  clear E5 hg6 C6
  cases b
  focus
    obtain ⟨rule, sz, E8⟩ : ∃ a b, ItW w g w.heap.size x V6 ⟨code, ⟨#[80, 67]⟩, kind, lead, a, b, safety, scrap⟩ := ⟨0, 0, E6⟩
    have x2 := E8.at_ 2 _ rfl
    go_upto_region 5 with fail
    obtain ⟨VB, hVB⟩ : ∃ VB, VB = V6 := ⟨_, rfl⟩
    rw [← hVB] at E8 x2 ⊢
    clear hVB E6
  rotate_left
  focus
    go_wp2_with fail
    refine (l1Below_any g _ _ E6.cur (by omega)).mono ?_; rintro e V7 ⟨a, rfl, ha0, ha1, -, hg7, C7⟩
    have E7 := E6.call hg7 C7
    have x4 := E7.at_ 4 _ rfl; have f4 := E7.free 4
    have E7' := E7.rule (1 + a) ⟨by omega, by omega⟩
    go_wp2_with fail
    refine (l1Below_any g _ _ E7'.cur (by omega)).mono ?_; rintro e V8 ⟨b, rfl, hb0, hb1, -, hg8, C8⟩
    have E8' := E7'.call hg8 C8
    have x5 := E8'.at_ 5 _ rfl; have f5 := E8'.free 5
    obtain ⟨rule, sz, E8⟩ : ∃ a' b', ItW w g w.heap.size x (V8.setCell ⟨x, 5, none⟩ (.int .i64 (1 + b))) ⟨code, ⟨#[80, 67]⟩, kind, lead, a', b', safety, scrap⟩ := ⟨_, _, E8'.size (1 + b) ⟨by omega, by omega⟩⟩
    have x2 := E8.at_ 2 _ rfl
    go_upto_region 5 with fail
    obtain ⟨VB, hVB⟩ : ∃ VB, VB = V8.setCell ⟨x, 5, none⟩ (.int .i64 (1 + b)) := ⟨_, rfl⟩
    rw [← hVB] at E8 x2 ⊢
    clear hVB E7 E7' E8' hg7 hg8 C7 C8 x4 f4 x5 f5
  rotate_left
  all_goals
    by_cases hk : kind = 2
    · have bk : (kind == 2) = true := by simpa using hk
      clear hk
      have x0 := E8.at_ 0 _ rfl; have f0 := E8.free 0; have x1 := E8.at_ 1 _ rfl; have f1 := E8.free 1; have x2 := E8.at_ 2 _ rfl; have f2 := E8.free 2; have x3 := E8.at_ 3 _ rfl; have f3 := E8.free 3; have x4 := E8.at_ 4 _ rfl; have f4 := E8.free 4; have x5 := E8.at_ 5 _ rfl; have f5 := E8.free 5; have x6 := E8.at_ 6 _ rfl; have f6 := E8.free 6; have x7 := E8.at_ 7 _ rfl; have f7 := E8.free 7
      obtain ⟨y9, E9⟩ : ∃ y9, ItW w g w.heap.size x _ y9 := ⟨_, (((((((E8.code code hs).unit ⟨#[80, 67]⟩ (by decide)).kind 2 ⟨by simp, by simp⟩).lead 0 ⟨by simp, by simp⟩).rule 0 ⟨by simp, by simp⟩).size 0 ⟨by simp, by simp⟩).safety 0 ⟨by simp, by simp⟩).scrap 0 ⟨by simp, by simp⟩⟩
      go_upto_region 7 with fail
      obtain ⟨V9, hV9⟩ : ∃ V9, V9 = ((((((((VB.setCell ⟨x, 0, none⟩ (.string code)).setCell ⟨x, 1, none⟩ (.string ⟨#[80, 67]⟩)).setCell ⟨x, 2, none⟩ (.int .i64 2)).setCell ⟨x, 3, none⟩ (.int .i64 0)).setCell ⟨x, 4, none⟩ (.int .i64 0)).setCell ⟨x, 5, none⟩ (.int .i64 0)).setCell ⟨x, 6, none⟩ (.int .i64 0)).setCell ⟨x, 7, none⟩ (.int .i64 0)) := ⟨_, rfl⟩
      rw [← hV9] at E9 ⊢
      clear hV9 E8
      clear x0 x1 x2 x3 x4 x5 x6 x7 f0 f1 f2 f3 f4 f5 f6 f7
      have x0 := E9.at_ 0 _ rfl; have x1 := E9.at_ 1 _ rfl; have x2 := E9.at_ 2 _ rfl; have x3 := E9.at_ 3 _ rfl; have x4 := E9.at_ 4 _ rfl; have x5 := E9.at_ 5 _ rfl; have x6 := E9.at_ 6 _ rfl; have x7 := E9.at_ 7 _ rfl
      have r0 := blk_at E9.res (j := 0) rfl; have r1 := blk_at E9.res (j := 1) rfl; have r2 := blk_at E9.res (j := 2) rfl; have r3 := blk_at E9.res (j := 3) rfl; have r4 := blk_at E9.res (j := 4) rfl; have r5 := blk_at E9.res (j := 5) rfl; have r6 := blk_at E9.res (j := 6) rfl; have r7 := blk_at E9.res (j := 7) rfl; have rf := blk_free E9.res
      go_wp2_with fail
      refine bodyPost_ret (v := itAgg y9) (by simp [results, Try.results89, go_sem, r0, r1, r2, r3, r4, r5, r6, r7]) rfl ⟨y9, rfl, E9.ok, (E9.fin _ _ _ _ _ _ _ _).1, (E9.fin _ _ _ _ _ _ _ _).2⟩
    · have bk : (kind == 2) = false := by simpa using hk
      go_upto_region 7 with fail
      obtain ⟨y9, E9⟩ : ∃ y9, ItW w g w.heap.size x _ y9 := ⟨_, E8⟩
      clear E8 x2
      have x0 := E9.at_ 0 _ rfl; have x1 := E9.at_ 1 _ rfl; have x2 := E9.at_ 2 _ rfl; have x3 := E9.at_ 3 _ rfl; have x4 := E9.at_ 4 _ rfl; have x5 := E9.at_ 5 _ rfl; have x6 := E9.at_ 6 _ rfl; have x7 := E9.at_ 7 _ rfl
      have r0 := blk_at E9.res (j := 0) rfl; have r1 := blk_at E9.res (j := 1) rfl; have r2 := blk_at E9.res (j := 2) rfl; have r3 := blk_at E9.res (j := 3) rfl; have r4 := blk_at E9.res (j := 4) rfl; have r5 := blk_at E9.res (j := 5) rfl; have r6 := blk_at E9.res (j := 6) rfl; have r7 := blk_at E9.res (j := 7) rfl; have rf := blk_free E9.res
      go_wp2_with fail
      refine bodyPost_ret (v := itAgg y9) (by simp [results, Try.results89, go_sem, r0, r1, r2, r3, r4, r5, r6, r7]) rfl ⟨y9, rfl, E9.ok, (E9.fin _ _ _ _ _ _ _ _).1, (E9.fin _ _ _ _ _ _ _ _).2⟩
set_option maxRecDepth 100000 in
set_option maxHeartbeats 4000000 in
theorem l8Bad_any (g : Nat) (y : It) (w : World) (hc : Cur w g) (hk : itOk y) :
    Calls Try.prog 90 #[.pointer (some ⟨g, 0, none⟩), itAgg y] w (DrawnIt g w) := by
  have hlt := hc.lt
  have E0 : ItW w g (w.heap.size + 1) w.heap.size ((w.alloc (Obj.cells #[Value.string y.code, .string y.unit, .int .i64 y.kind, .int .i64 y.lead, .int .i64 y.rule, .int .i64 y.size, .int .i64 y.safety, .int .i64 y.scrap] 64)).alloc (Obj.cells #[.string ⟨#[]⟩, .string ⟨#[]⟩, .int .i64 0, .int .i64 0, .int .i64 0, .int .i64 0, .int .i64 0, .int .i64 0] 64)) y :=
    ⟨hlt, by omega, Nat.le_refl _, by omega, by simp, by simp; omega, blk_new2 w _ _, blk_alloc (blk_new1 w _) _, (World.grownBy_alloc w _ (some g)).trans (World.grownBy_alloc _ _ (some g)), (hc.below (below_box _ _)).below (below_box _ _), hk⟩
  clear hc
  go_enter Try.func90, Try.ntmps90
  go_wp2_with fail
  refine (l1Below_any g _ _ E0.cur (by omega)).mono ?_; rintro e V1 ⟨k, rfl, hk0, -, -, hg1, C1⟩
  have E1 := E0.call hg1 C1
  clear E0 hg1 C1
  have hgx : g < V1.heap.size := Nat.lt_trans E1.gx (Nat.lt_of_le_of_lt E1.wx E1.sx)
  have hk6 : k = 0 ∨ k = 1 ∨ k = 2 ∨ k = 3 ∨ k = 4 ∨ k = 5 ∨ 6 ≤ k := by omega
  rcases hk6 with rfl | rfl | rfl | rfl | rfl | rfl | hk6
  focus
    go_wp2_with fail
    refine (l1PickInt_any g _ _ _ [-1, 51] _ (E1.cur.below (below_box _ _)) (RS_new (by simp)) (by simp [i64]) (by omega) (by omega) (fun a e => by injection e with e; subst e; show V1.heap.size ≠ g; omega)).mono ?_; rintro e V2 ⟨v, rfl, hv, hg2, C2⟩
    have E2 := (E1.below (below_box V1 _)).call hg2 C2
    have xj := E2.at_ 7 _ rfl; have fj := E2.free 7
    obtain ⟨y9, E9⟩ : ∃ y9, ItW w g (w.heap.size + 1) w.heap.size (V2.setCell ⟨w.heap.size, 7, none⟩ (.int .i64 v)) y9 := ⟨_, E2.scrap v hv⟩
    clear E1 E2 hg2 C2
    go_upto_region 14 with fail
    obtain ⟨V9, hV9⟩ : ∃ V9, V9 = V2.setCell ⟨w.heap.size, 7, none⟩ (.int .i64 v) := ⟨_, rfl⟩
    rw [← hV9] at E9 ⊢
    clear hV9 xj fj
    have x0 := E9.at_ 0 _ rfl; have x1 := E9.at_ 1 _ rfl; have x2 := E9.at_ 2 _ rfl; have x3 := E9.at_ 3 _ rfl; have x4 := E9.at_ 4 _ rfl; have x5 := E9.at_ 5 _ rfl; have x6 := E9.at_ 6 _ rfl; have x7 := E9.at_ 7 _ rfl
    have r0 := blk_at E9.res (j := 0) rfl; have r1 := blk_at E9.res (j := 1) rfl; have r2 := blk_at E9.res (j := 2) rfl; have r3 := blk_at E9.res (j := 3) rfl; have r4 := blk_at E9.res (j := 4) rfl; have r5 := blk_at E9.res (j := 5) rfl; have r6 := blk_at E9.res (j := 6) rfl; have r7 := blk_at E9.res (j := 7) rfl; have rf := blk_free E9.res
    go_wp2_with fail
    refine bodyPost_ret (v := itAgg y9) (by simp [results, Try.results90, go_sem, r0, r1, r2, r3, r4, r5, r6, r7]) rfl ⟨y9, rfl, E9.ok, (E9.fin _ _ _ _ _ _ _ _).1, (E9.fin _ _ _ _ _ _ _ _).2⟩
  focus
    have xj := E1.at_ 2 _ rfl; have fj := E1.free 2
    obtain ⟨y9, E9⟩ : ∃ y9, ItW w g (w.heap.size + 1) w.heap.size (V1.setCell ⟨w.heap.size, 2, none⟩ (.int .i64 3)) y9 := ⟨_, E1.kind _ ⟨by simp, by simp⟩⟩
    clear E1
    go_upto_region 14 with fail
    obtain ⟨V9, hV9⟩ : ∃ V9, V9 = V1.setCell ⟨w.heap.size, 2, none⟩ (.int .i64 3) := ⟨_, rfl⟩
    rw [← hV9] at E9 ⊢
    clear hV9 xj fj
    have x0 := E9.at_ 0 _ rfl; have x1 := E9.at_ 1 _ rfl; have x2 := E9.at_ 2 _ rfl; have x3 := E9.at_ 3 _ rfl; have x4 := E9.at_ 4 _ rfl; have x5 := E9.at_ 5 _ rfl; have x6 := E9.at_ 6 _ rfl; have x7 := E9.at_ 7 _ rfl
    have r0 := blk_at E9.res (j := 0) rfl; have r1 := blk_at E9.res (j := 1) rfl; have r2 := blk_at E9.res (j := 2) rfl; have r3 := blk_at E9.res (j := 3) rfl; have r4 := blk_at E9.res (j := 4) rfl; have r5 := blk_at E9.res (j := 5) rfl; have r6 := blk_at E9.res (j := 6) rfl; have r7 := blk_at E9.res (j := 7) rfl; have rf := blk_free E9.res
    go_wp2_with fail
    refine bodyPost_ret (v := itAgg y9) (by simp [results, Try.results90, go_sem, r0, r1, r2, r3, r4, r5, r6, r7]) rfl ⟨y9, rfl, E9.ok, (E9.fin _ _ _ _ _ _ _ _).1, (E9.fin _ _ _ _ _ _ _ _).2⟩
  focus
    go_wp2_with fail
    refine (l1PickInt_any g _ _ _ [-1, 31] _ (E1.cur.below (below_box _ _)) (RS_new (by simp)) (by simp [i64]) (by omega) (by omega) (fun a e => by injection e with e; subst e; show V1.heap.size ≠ g; omega)).mono ?_; rintro e V2 ⟨v, rfl, hv, hg2, C2⟩
    have E2 := (E1.below (below_box V1 _)).call hg2 C2
    have xj := E2.at_ 3 _ rfl; have fj := E2.free 3
    obtain ⟨y9, E9⟩ : ∃ y9, ItW w g (w.heap.size + 1) w.heap.size (V2.setCell ⟨w.heap.size, 3, none⟩ (.int .i64 v)) y9 := ⟨_, E2.lead v hv⟩
    clear E1 E2 hg2 C2
    go_upto_region 14 with fail
    obtain ⟨V9, hV9⟩ : ∃ V9, V9 = V2.setCell ⟨w.heap.size, 3, none⟩ (.int .i64 v) := ⟨_, rfl⟩
    rw [← hV9] at E9 ⊢
    clear hV9 xj fj
    have x0 := E9.at_ 0 _ rfl; have x1 := E9.at_ 1 _ rfl; have x2 := E9.at_ 2 _ rfl; have x3 := E9.at_ 3 _ rfl; have x4 := E9.at_ 4 _ rfl; have x5 := E9.at_ 5 _ rfl; have x6 := E9.at_ 6 _ rfl; have x7 := E9.at_ 7 _ rfl
    have r0 := blk_at E9.res (j := 0) rfl; have r1 := blk_at E9.res (j := 1) rfl; have r2 := blk_at E9.res (j := 2) rfl; have r3 := blk_at E9.res (j := 3) rfl; have r4 := blk_at E9.res (j := 4) rfl; have r5 := blk_at E9.res (j := 5) rfl; have r6 := blk_at E9.res (j := 6) rfl; have r7 := blk_at E9.res (j := 7) rfl; have rf := blk_free E9.res
    go_wp2_with fail
    refine bodyPost_ret (v := itAgg y9) (by simp [results, Try.results90, go_sem, r0, r1, r2, r3, r4, r5, r6, r7]) rfl ⟨y9, rfl, E9.ok, (E9.fin _ _ _ _ _ _ _ _).1, (E9.fin _ _ _ _ _ _ _ _).2⟩
  focus
    have xj := E1.at_ 5 _ rfl; have fj := E1.free 5
    obtain ⟨y9, E9⟩ : ∃ y9, ItW w g (w.heap.size + 1) w.heap.size (V1.setCell ⟨w.heap.size, 5, none⟩ (.int .i64 1001)) y9 := ⟨_, E1.size _ ⟨by simp, by simp⟩⟩
    clear E1
    go_upto_region 14 with fail
    obtain ⟨V9, hV9⟩ : ∃ V9, V9 = V1.setCell ⟨w.heap.size, 5, none⟩ (.int .i64 1001) := ⟨_, rfl⟩
    rw [← hV9] at E9 ⊢
    clear hV9 xj fj
    have x0 := E9.at_ 0 _ rfl; have x1 := E9.at_ 1 _ rfl; have x2 := E9.at_ 2 _ rfl; have x3 := E9.at_ 3 _ rfl; have x4 := E9.at_ 4 _ rfl; have x5 := E9.at_ 5 _ rfl; have x6 := E9.at_ 6 _ rfl; have x7 := E9.at_ 7 _ rfl
    have r0 := blk_at E9.res (j := 0) rfl; have r1 := blk_at E9.res (j := 1) rfl; have r2 := blk_at E9.res (j := 2) rfl; have r3 := blk_at E9.res (j := 3) rfl; have r4 := blk_at E9.res (j := 4) rfl; have r5 := blk_at E9.res (j := 5) rfl; have r6 := blk_at E9.res (j := 6) rfl; have r7 := blk_at E9.res (j := 7) rfl; have rf := blk_free E9.res
    go_wp2_with fail
    refine bodyPost_ret (v := itAgg y9) (by simp [results, Try.results90, go_sem, r0, r1, r2, r3, r4, r5, r6, r7]) rfl ⟨y9, rfl, E9.ok, (E9.fin _ _ _ _ _ _ _ _).1, (E9.fin _ _ _ _ _ _ _ _).2⟩
  focus
    have xj := E1.at_ 0 _ rfl; have fj := E1.free 0
    obtain ⟨y9, E9⟩ : ∃ y9, ItW w g (w.heap.size + 1) w.heap.size (V1.setCell ⟨w.heap.size, 0, none⟩ (.string ⟨#[97]⟩)) y9 := ⟨_, E1.code _ (by decide)⟩
    clear E1
    go_upto_region 14 with fail
    obtain ⟨V9, hV9⟩ : ∃ V9, V9 = V1.setCell ⟨w.heap.size, 0, none⟩ (.string ⟨#[97]⟩) := ⟨_, rfl⟩
    rw [← hV9] at E9 ⊢
    clear hV9 xj fj
    have x0 := E9.at_ 0 _ rfl; have x1 := E9.at_ 1 _ rfl; have x2 := E9.at_ 2 _ rfl; have x3 := E9.at_ 3 _ rfl; have x4 := E9.at_ 4 _ rfl; have x5 := E9.at_ 5 _ rfl; have x6 := E9.at_ 6 _ rfl; have x7 := E9.at_ 7 _ rfl
    have r0 := blk_at E9.res (j := 0) rfl; have r1 := blk_at E9.res (j := 1) rfl; have r2 := blk_at E9.res (j := 2) rfl; have r3 := blk_at E9.res (j := 3) rfl; have r4 := blk_at E9.res (j := 4) rfl; have r5 := blk_at E9.res (j := 5) rfl; have r6 := blk_at E9.res (j := 6) rfl; have r7 := blk_at E9.res (j := 7) rfl; have rf := blk_free E9.res
    go_wp2_with fail
    refine bodyPost_ret (v := itAgg y9) (by simp [results, Try.results90, go_sem, r0, r1, r2, r3, r4, r5, r6, r7]) rfl ⟨y9, rfl, E9.ok, (E9.fin _ _ _ _ _ _ _ _).1, (E9.fin _ _ _ _ _ _ _ _).2⟩
  focus
    go_wp2_with fail
    refine (l1Odd_any g _ E1.cur).mono ?_; rintro e V2 ⟨v, rfl, hv, hg2, C2⟩
    have E2 := E1.call hg2 C2
    have xj := E2.at_ 6 _ rfl; have fj := E2.free 6
    obtain ⟨y9, E9⟩ : ∃ y9, ItW w g (w.heap.size + 1) w.heap.size (V2.setCell ⟨w.heap.size, 6, none⟩ (.int .i64 v)) y9 := ⟨_, E2.safety v hv⟩
    clear E1 E2 hg2 C2
    go_upto_region 14 with fail
    obtain ⟨V9, hV9⟩ : ∃ V9, V9 = V2.setCell ⟨w.heap.size, 6, none⟩ (.int .i64 v) := ⟨_, rfl⟩
    rw [← hV9] at E9 ⊢
    clear hV9 xj fj
    have x0 := E9.at_ 0 _ rfl; have x1 := E9.at_ 1 _ rfl; have x2 := E9.at_ 2 _ rfl; have x3 := E9.at_ 3 _ rfl; have x4 := E9.at_ 4 _ rfl; have x5 := E9.at_ 5 _ rfl; have x6 := E9.at_ 6 _ rfl; have x7 := E9.at_ 7 _ rfl
    have r0 := blk_at E9.res (j := 0) rfl; have r1 := blk_at E9.res (j := 1) rfl; have r2 := blk_at E9.res (j := 2) rfl; have r3 := blk_at E9.res (j := 3) rfl; have r4 := blk_at E9.res (j := 4) rfl; have r5 := blk_at E9.res (j := 5) rfl; have r6 := blk_at E9.res (j := 6) rfl; have r7 := blk_at E9.res (j := 7) rfl; have rf := blk_free E9.res
    go_wp2_with fail
    refine bodyPost_ret (v := itAgg y9) (by simp [results, Try.results90, go_sem, r0, r1, r2, r3, r4, r5, r6, r7]) rfl ⟨y9, rfl, E9.ok, (E9.fin _ _ _ _ _ _ _ _).1, (E9.fin _ _ _ _ _ _ _ _).2⟩
  focus
    have q0 : (k == 0) = false := by simp; omega
    have q1 : (k == 1) = false := by simp; omega
    have q2 : (k == 2) = false := by simp; omega
    have q3 : (k == 3) = false := by simp; omega
    have q4 : (k == 4) = false := by simp; omega
    have q5 : (k == 5) = false := by simp; omega
    obtain ⟨y9, E9⟩ : ∃ y9, ItW w g (w.heap.size + 1) w.heap.size V1 y9 := ⟨_, E1⟩
    clear E1
    go_upto_region 14 with fail
    obtain ⟨V9, hV9⟩ : ∃ V9, V9 = V1 := ⟨_, rfl⟩
    rw [← hV9] at E9 ⊢
    clear hV9
    have x0 := E9.at_ 0 _ rfl; have x1 := E9.at_ 1 _ rfl; have x2 := E9.at_ 2 _ rfl; have x3 := E9.at_ 3 _ rfl; have x4 := E9.at_ 4 _ rfl; have x5 := E9.at_ 5 _ rfl; have x6 := E9.at_ 6 _ rfl; have x7 := E9.at_ 7 _ rfl
    have r0 := blk_at E9.res (j := 0) rfl; have r1 := blk_at E9.res (j := 1) rfl; have r2 := blk_at E9.res (j := 2) rfl; have r3 := blk_at E9.res (j := 3) rfl; have r4 := blk_at E9.res (j := 4) rfl; have r5 := blk_at E9.res (j := 5) rfl; have r6 := blk_at E9.res (j := 6) rfl; have r7 := blk_at E9.res (j := 7) rfl; have rf := blk_free E9.res
    go_wp2_with fail
    refine bodyPost_ret (v := itAgg y9) (by simp [results, Try.results90, go_sem, r0, r1, r2, r3, r4, r5, r6, r7]) rfl ⟨y9, rfl, E9.ok, (E9.fin _ _ _ _ _ _ _ _).1, (E9.fin _ _ _ _ _ _ _ _).2⟩
end Go.Proofs.Ytnhkpdaogclfjaa
