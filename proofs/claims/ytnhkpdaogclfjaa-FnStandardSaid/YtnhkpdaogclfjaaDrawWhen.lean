/- The walks of the drawing of days, codes, conditions, choices. No condition. -/
import Derived.Test.YtnhkpdaogclfjaaDrawText
import Derived.Test.YtnhkpdaogclfjaaSCondNode
import Derived.Test.YtnhkpdaogclfjaaSPick
import Derived.Test.YtnhkpdaogclfjaaHoldsW
import Derived.Deep.DeepCutAuto
namespace Go.Proofs.Ytnhkpdaogclfjaa
open Go.ChangeShapes Go.WideShapes Go.ChangeAt Go.RowKit

theorem blk_grown {w w' : World} {g x : Nat} {o : Obj} (hg : w.grownBy w' (some g)) (h : w.heap[x]? = some o) (hne : x ≠ g) : w'.heap[x]? = some o :=
  (hg.block x (Array.getElem?_eq_some_iff.1 h).1 (by simpa using hne)).trans h
theorem grown_setNew' {w w' : World} {row : Option Nat} (h : w.grownBy w' row) {p : Addr} (hp : w.heap.size ≤ p.block) (v : Value) : w.grownBy (w'.setCell p v) row :=
  ⟨h.os, h.tape, h.output, by simpa [World.setCell] using h.size, fun k hk hne => (Below.heap_setCell w' p v k (by omega)).trans (h.block k hk hne)⟩
theorem cur_setNew' {w : World} {g : Nat} (h : Cur w g) {p : Addr} (hp : g < p.block) (v : Value) : Cur (w.setCell p v) g := by
  obtain ⟨A, n, c, i, x, bs, hh, hr, h1, h2, h3, h4⟩ := h
  refine ⟨A, n, c, i, x, bs, (Below.heap_setCell w p v g (by omega)).trans hh, hr.grown (grown_set w p v) (fun a e hn he => ?_), h1, h2, h3, h4⟩
  have := h4 a e hn
  injection he with he
  omega
theorem l4Day_any (g : Nat) (w : World) (hc : Cur w g) :
    Calls Try.prog 57 #[.pointer (some ⟨g, 0, none⟩)] w fun e w' => ∃ x : Int, e = .returned (.int .i64 x) ∧ i64 x ∧ w.grownBy w' (some g) ∧ Cur w' g := by
  have hlt := hc.lt
  go_enter Try.func57, Try.ntmps57
  go_wp2_with fail
  refine (l1Once_any g _ _ hc (by omega)).mono ?_; rintro e w1 ⟨b, rfl, hg1, hc1⟩
  have hlt1 := hc1.lt
  cases b
  · go_wp2_with fail
    refine (l1Below_any g _ _ hc1 (by omega)).mono ?_; rintro e w2 ⟨x, rfl, hx0, hx1, -, hg2, hc2⟩
    go_wp2_with fail
    go_ret
    exact ⟨x, rfl, ⟨by omega, by omega⟩, hg1.trans hg2, hc2⟩
  · go_wp2_with fail
    refine (l1PickInt_any g _ _ _ [-1, 999, 1000, 998, -9223372036854775808, 9223372036854775807] _ (hc1.below (below_box _ _)) (RS_new (by simp)) (by simp [i64]) (by omega) (by omega) (fun a e => by injection e with e; subst e; show w1.heap.size ≠ g; omega)).mono ?_; rintro e w2 ⟨x, rfl, hx, hg2, hc2⟩
    go_wp2_with fail
    go_ret
    exact ⟨x, rfl, hx, (hg1.trans (World.grownBy_alloc w1 _ _)).trans hg2, hc2⟩
theorem l1Code_any (g : Nat) (w : World) (hc : Cur w g) :
    Calls Try.prog 76 #[.pointer (some ⟨g, 0, none⟩)] w fun e w' => ∃ s : ByteArray, e = .returned (.string s) ∧ s.size ≤ 12 ∧ w.grownBy w' (some g) ∧ Cur w' g := by
  go_enter Try.func76, Try.ntmps76
  go_wp2_with fail
  refine (l1Once_any g _ _ hc (by omega)).mono ?_; rintro e w1 ⟨b, rfl, hg1, hc1⟩
  have hlt1 := hc1.lt
  cases b
  · go_wp2_with fail
    refine (l1Pick_any g _ _ _ _ _ (hc1.below (below_box _ _)) (RS_new (by simp)) (by
      intro u hu
      simp only [List.mem_cons, List.not_mem_nil, or_false] at hu
      rcases hu with h | h | h | h | h | h <;> exact ⟨_, h, by decide⟩) (by omega) (by omega) (fun a e => by injection e with e; subst e; show w1.heap.size ≠ g; omega)).mono ?_; rintro e w2 ⟨x, rfl, hx, hg2, hc2⟩
    go_wp2_with fail
    go_ret
    exact ⟨x, rfl, hx, (hg1.trans (World.grownBy_alloc w1 _ _)).trans hg2, hc2⟩
  · go_wp2_with fail
    refine (l1Pick_any g _ _ _ _ _ (hc1.below (below_box _ _)) (RS_new (by simp)) (by
      intro u hu
      simp only [List.mem_cons, List.not_mem_nil, or_false] at hu
      rcases hu with h | h | h | h | h <;> exact ⟨_, h, by decide⟩) (by omega) (by omega) (fun a e => by injection e with e; subst e; show w1.heap.size ≠ g; omega)).mono ?_; rintro e w2 ⟨x, rfl, hx, hg2, hc2⟩
    go_wp2_with fail
    go_ret
    exact ⟨x, rfl, hx, (hg1.trans (World.grownBy_alloc w1 _ _)).trans hg2, hc2⟩
set_option maxHeartbeats 1000000 in
theorem l6Leaf_any (g : Nat) (w : World) (hc : Cur w g) :
    Calls Try.prog 94 #[.pointer (some ⟨g, 0, none⟩)] w fun e w' => ∃ x : Cn, e = .returned (cnAgg x) ∧ cnOk x ∧ w.grownBy w' (some g) ∧ Cur w' g := by
  have hlt := hc.lt
  go_enter Try.func94, Try.ntmps94
  go_wp2_with fail
  refine (l1Once_any g _ _ (hc.below (below_box _ _)) (by omega)).mono ?_; rintro e w1 ⟨b, rfl, hg1, hc1⟩
  have HR := Lib.hid (blk_grown hg1 (blk_new1 w _) (by omega))
  have z1 := hg1.size
  rw [World.size_alloc] at z1
  have G1 := (World.grownBy_alloc w _ (some g)).trans hg1
  clear hc hg1
  cases b
  rotate_left
  · have r0 := blk_at HR.out (j := 0) rfl; have r1 := blk_at HR.out (j := 1) rfl; have r2 := blk_at HR.out (j := 2) rfl; have rf := blk_free HR.out
    go_wp2_with fail
    refine bodyPost_ret (v := cnAgg ⟨0, ⟨#[]⟩, ⟨#[]⟩⟩) (by simp [results, Try.results94, go_sem, r0, r1, r2]) rfl ⟨_, rfl, ⟨⟨by simp, by simp⟩, by decide, by decide⟩, ?_, ?_⟩
    · exact grown_setNew' (grown_setNew' (grown_setNew' G1 (Nat.le_refl _) _) (Nat.le_refl _) _) (Nat.le_refl _) _
    · exact cur_setNew' (cur_setNew' (cur_setNew' hc1 hlt _) hlt _) hlt _
  · go_wp2_with fail
    refine (l1Pick_any g _ _ _ _ _ (hc1.below (below_box _ _)) (RS_new (by simp)) (by
      intro u hu
      simp only [List.mem_cons, List.not_mem_nil, or_false] at hu
      rcases hu with h | h | h <;> exact ⟨_, h, by decide⟩) (by omega) (by omega) (fun a e => by injection e with e; subst e; show w1.heap.size ≠ g; omega)).mono ?_; rintro e w2 ⟨x, rfl, hx, hg2, hc2⟩
    have HR2 := Lib.hid (blk_grown hg2 (blk_alloc HR.out _) (by omega))
    have G2 := (G1.trans (World.grownBy_alloc w1 _ _)).trans hg2
    have z2 := G2.size
    clear hg2 HR G1 hc1
    go_wp2_with fail
    refine (l1Pick_any g _ _ _ _ _ (hc2.below (below_box _ _)) (RS_new (by simp)) (by
      intro u hu
      simp only [List.mem_cons, List.not_mem_nil, or_false] at hu
      rcases hu with h | h | h <;> exact ⟨_, h, by decide⟩) (by omega) (by omega) (fun a e => by injection e with e; subst e; show w2.heap.size ≠ g; omega)).mono ?_; rintro e w3 ⟨y, rfl, hy, hg3, hc3⟩
    have HR3 := Lib.hid (blk_grown hg3 (blk_alloc HR2.out _) (by omega))
    have G3 := (G2.trans (World.grownBy_alloc w2 _ _)).trans hg3
    clear hg3 HR2 G2 hc2
    have r0 := blk_at HR3.out (j := 0) rfl; have r1 := blk_at HR3.out (j := 1) rfl; have r2 := blk_at HR3.out (j := 2) rfl; have rf := blk_free HR3.out
    go_wp2_with fail
    refine bodyPost_ret (v := cnAgg ⟨1, x, y⟩) (by simp [results, Try.results94, go_sem, r0, r1, r2]) rfl ⟨_, rfl, ⟨⟨by simp, by simp⟩, by simp only; omega, by simp only; omega⟩, ?_, ?_⟩
    · exact grown_setNew' (grown_setNew' (grown_setNew' G3 (Nat.le_refl _) _) (Nat.le_refl _) _) (Nat.le_refl _) _
    · exact cur_setNew' (cur_setNew' (cur_setNew' hc3 hlt _) hlt _) hlt _
/-- Nodes drawn by cursor g. -/
def DrawnCn (g b : Nat) (w : World) (e : Ending) (w' : World) : Prop :=
  ∃ (A : Option Addr) (n c : Nat) (l : List Cn), e = .returned (.slice A n c) ∧ w'.ownsRow w.heap.size 126 3 (.slice A n c) n (l.flatMap cnCell) ∧ n ≤ b ∧ (∀ x ∈ l, cnOk x) ∧ w.grownBy w' (some g) ∧ Cur w' g
set_option maxHeartbeats 1000000 in
theorem l6Draw_flat (g : Nat) (w : World) (hc : Cur w g) :
    Calls Try.prog 93 #[.pointer (some ⟨g, 0, none⟩), .int .i64 0] w (DrawnCn g 1 w) := by
  have hlt := hc.lt
  go_enter Try.func93, Try.ntmps93
  go_wp2_with fail
  refine (l6Leaf_any g _ hc).mono ?_; rintro e w1 ⟨x, rfl, hx, hg1, hc1⟩
  have ON := own_new w1 (base := w.heap.size) (e := 126) (size := 3) (n := 1) #[.int .i64 x.kind, .string x.opt, .string x.val] hg1.size (by unfold maxLen; omega) rfl
  go_wp2_with fail
  go_ret
  exact ⟨_, 1, 1, [x], rfl, ON, Nat.le_refl _, by simpa using hx, hg1.trans (World.grownBy_alloc w1 _ _), hc1.below (below_box _ _)⟩
set_option maxRecDepth 100000 in
set_option maxHeartbeats 2000000 in
theorem l6Draw_one (g : Nat) (w : World) (hc : Cur w g) :
    Calls Try.prog 93 #[.pointer (some ⟨g, 0, none⟩), .int .i64 1] w (DrawnCn g 3 w) := by
  have hlt := hc.lt
  obtain ⟨i0, hi, hz0, hz1, hz2⟩ := info_parts cnInfo
  go_enter Try.func93, Try.ntmps93
  go_wp2_with fail
  refine (l1Once_any g _ _ hc (by omega)).mono ?_; rintro e w1 ⟨b, rfl, hg1, hc1⟩
  have z1 := hg1.size
  cases b
  rotate_left
  · go_wp2_with fail
    refine (l6Leaf_any g _ hc1).mono ?_; rintro e w2 ⟨x, rfl, hx, hg2, hc2⟩
    have G2 := hg1.trans hg2
    have ON := own_new w2 (base := w.heap.size) (e := 126) (size := 3) (n := 1) #[.int .i64 x.kind, .string x.opt, .string x.val] G2.size (by unfold maxLen; omega) rfl
    go_wp2_with fail
    go_ret
    exact ⟨_, 1, 1, [x], rfl, ON, by omega, by simpa using hx, G2.trans (World.grownBy_alloc w2 _ _), hc2.below (below_box _ _)⟩
  go_wp2_with fail
  refine (l6Draw_flat g _ hc1).mono ?_; rintro e w2 ⟨A2, n2, c2, l2, rfl, o2, hn2, hok2, hg2, hc2⟩
  have G2 := hg1.trans hg2
  have o2 := own_base o2 hg1.size
  clear hg1 hc1 hg2
  go_wp2_with fail
  refine (l1Below_any g _ _ hc2 (by omega)).mono ?_; rintro e w3 ⟨y, rfl, hy0, -, hy1, hg3, hc3⟩
  have hy2 := hy1 (by omega)
  have o3 := row_grown o2 hg3 (cur_apart o2 hlt)
  have G3 := G2.trans hg3
  have z3 := G3.size
  clear o2 hg3 G2 hc2 hy1
  by_cases h0 : y = 0
  · subst h0
    have OB := o3.alloc (Obj.cells #[.int .i64 2, .string ⟨#[]⟩, .string ⟨#[]⟩] 126)
    go_wp2_with (at_builtin; refine wpList_app _ rfl _ _ _ rfl w.heap.size 126 i0 _ 3 40 Try.underlying80 hi hz0 hz1 hz2 rfl (by omega) _ n2 (l2.flatMap cnCell) rfl OB _ 1 1 (cnCell ⟨2, ⟨#[]⟩, ⟨#[]⟩⟩) rfl (RS_new (by simp)) (cnCell_one _) (by unfold maxLen; omega) (by omega) (by simp; omega) ?_; intro A6 c6 w6 o6 g6 at6 b6)
    have G6 := grown_own (G3.trans (World.grownBy_alloc w3 (Obj.cells #[.int .i64 2, .string ⟨#[]⟩, .string ⟨#[]⟩] 126) (some g))) g6 (fun j hj => (OB.lt j hj).1)
    have C6 := cur_grown (hc3.below (below_box w3 (Obj.cells #[.int .i64 2, .string ⟨#[]⟩, .string ⟨#[]⟩] 126))) g6 (fun j hj => by have := (OB.lt j hj).1; omega)
    have o7 : w6.ownsRow w.heap.size 126 3 (.slice A6 (n2 + 1) c6) (n2 + 1) ((l2 ++ [(⟨2, ⟨#[]⟩, ⟨#[]⟩⟩ : Cn)]).flatMap cnCell) := by rw [flat_append, flat_one]; exact o6
    clear o6 g6 at6 b6 OB
    go_wp2_with fail
    go_ret
    exact ⟨_, _, _, _, rfl, o7, by omega, snoc_mem hok2 ⟨⟨by simp, by simp⟩, by decide, by decide⟩, G6, C6⟩
  have b0 : (y == 0) = false := by simpa using h0
  by_cases h1 : y = 1
  · subst h1
    clear b0 h0
    go_wp2_with fail
    refine (l6Draw_flat g _ hc3).mono ?_; rintro e w4 ⟨A4, n4, c4, l4, rfl, o4, hn4, hok4, hg4, hc4⟩
    have o2' := row_grown o3 hg4 (cur_apart o3 hlt)
    have G4 := G3.trans hg4
    have z4 := G4.size
    clear o3 hg4 G3 hc3
    go_wp2_with (first | (at_builtin; refine wpList_app _ rfl _ _ _ rfl w.heap.size 126 i0 _ 3 40 Try.underlying80 hi hz0 hz1 hz2 rfl (by omega) _ n2 (l2.flatMap cnCell) rfl o2' A4 n4 _ (l4.flatMap cnCell) rfl (RS.of_own o4) (flat_one_cell cnCell_one _) (by unfold maxLen; omega) (by omega) (by omega) ?_; intro A5 c5 w5 o5 g5 at5 b5; have G5 := grown_own G4 g5 (fun j hj => (o2'.lt j hj).1); have C5 := cur_grown hc4 g5 (fun j hj => by have := (o2'.lt j hj).1; omega); have z5 := G5.size; have OB := o5.alloc (Obj.cells #[.int .i64 3, .string ⟨#[]⟩, .string ⟨#[]⟩] 126); clear o2' g5 at5 b5 hc4 G4 o4) | (at_builtin; refine wpList_app _ rfl _ _ _ rfl w.heap.size 126 i0 _ 3 40 Try.underlying80 hi hz0 hz1 hz2 rfl (by omega) _ (n2 + n4) (l2.flatMap cnCell ++ l4.flatMap cnCell) rfl OB _ 1 1 (cnCell ⟨3, ⟨#[]⟩, ⟨#[]⟩⟩) rfl (RS_new (by simp)) (cnCell_one _) (by unfold maxLen; omega) (by omega) (by simp; omega) ?_; intro A6 c6 w6 o6 g6 at6 b6))
    have G6 := grown_own (G5.trans (World.grownBy_alloc w5 (Obj.cells #[.int .i64 3, .string ⟨#[]⟩, .string ⟨#[]⟩] 126) (some g))) g6 (fun j hj => (OB.lt j hj).1)
    have C6 := cur_grown (C5.below (below_box w5 (Obj.cells #[.int .i64 3, .string ⟨#[]⟩, .string ⟨#[]⟩] 126))) g6 (fun j hj => by have := (OB.lt j hj).1; omega)
    have o7 : w6.ownsRow w.heap.size 126 3 (.slice A6 (n2 + n4 + 1) c6) (n2 + n4 + 1) ((l2 ++ l4 ++ [(⟨3, ⟨#[]⟩, ⟨#[]⟩⟩ : Cn)]).flatMap cnCell) := by rw [flat_append, flat_append, flat_one]; exact o6
    clear o6 g6 at6 b6 OB
    go_wp2_with fail
    go_ret
    exact ⟨_, _, _, _, rfl, o7, by omega, snoc_mem (fun x hx => (List.mem_append.1 hx).elim (hok2 x) (hok4 x)) ⟨⟨by simp, by simp⟩, by decide, by decide⟩, G6, C6⟩
  · have b1 : (y == 1) = false := by simpa using h1
    go_wp2_with fail
    refine (l6Draw_flat g _ hc3).mono ?_; rintro e w4 ⟨A4, n4, c4, l4, rfl, o4, hn4, hok4, hg4, hc4⟩
    have o2' := row_grown o3 hg4 (cur_apart o3 hlt)
    have G4 := G3.trans hg4
    have z4 := G4.size
    clear o3 hg4 G3 hc3
    go_wp2_with (first | (at_builtin; refine wpList_app _ rfl _ _ _ rfl w.heap.size 126 i0 _ 3 40 Try.underlying80 hi hz0 hz1 hz2 rfl (by omega) _ n2 (l2.flatMap cnCell) rfl o2' A4 n4 _ (l4.flatMap cnCell) rfl (RS.of_own o4) (flat_one_cell cnCell_one _) (by unfold maxLen; omega) (by omega) (by omega) ?_; intro A5 c5 w5 o5 g5 at5 b5; have G5 := grown_own G4 g5 (fun j hj => (o2'.lt j hj).1); have C5 := cur_grown hc4 g5 (fun j hj => by have := (o2'.lt j hj).1; omega); have z5 := G5.size; have OB := o5.alloc (Obj.cells #[.int .i64 4, .string ⟨#[]⟩, .string ⟨#[]⟩] 126); clear o2' g5 at5 b5 hc4 G4 o4) | (at_builtin; refine wpList_app _ rfl _ _ _ rfl w.heap.size 126 i0 _ 3 40 Try.underlying80 hi hz0 hz1 hz2 rfl (by omega) _ (n2 + n4) (l2.flatMap cnCell ++ l4.flatMap cnCell) rfl OB _ 1 1 (cnCell ⟨4, ⟨#[]⟩, ⟨#[]⟩⟩) rfl (RS_new (by simp)) (cnCell_one _) (by unfold maxLen; omega) (by omega) (by simp; omega) ?_; intro A6 c6 w6 o6 g6 at6 b6))
    have G6 := grown_own (G5.trans (World.grownBy_alloc w5 (Obj.cells #[.int .i64 4, .string ⟨#[]⟩, .string ⟨#[]⟩] 126) (some g))) g6 (fun j hj => (OB.lt j hj).1)
    have C6 := cur_grown (C5.below (below_box w5 (Obj.cells #[.int .i64 4, .string ⟨#[]⟩, .string ⟨#[]⟩] 126))) g6 (fun j hj => by have := (OB.lt j hj).1; omega)
    have o7 : w6.ownsRow w.heap.size 126 3 (.slice A6 (n2 + n4 + 1) c6) (n2 + n4 + 1) ((l2 ++ l4 ++ [(⟨4, ⟨#[]⟩, ⟨#[]⟩⟩ : Cn)]).flatMap cnCell) := by rw [flat_append, flat_append, flat_one]; exact o6
    clear o6 g6 at6 b6 OB
    go_wp2_with fail
    go_ret
    exact ⟨_, _, _, _, rfl, o7, by omega, snoc_mem (fun x hx => (List.mem_append.1 hx).elim (hok2 x) (hok4 x)) ⟨⟨by simp, by simp⟩, by decide, by decide⟩, G6, C6⟩
theorem l9When_any (g : Nat) (w : World) (hc : Cur w g) :
    Calls Try.prog 91 #[.pointer (some ⟨g, 0, none⟩)] w (DrawnCn g 3 w) := by
  go_enter Try.func91, Try.ntmps91
  go_wp2_with fail
  refine (l1Once_any g _ _ hc (by omega)).mono ?_; rintro e w1 ⟨b, rfl, hg1, hc1⟩
  cases b
  · have ON := own_new w1 (base := w.heap.size) (e := 126) (size := 3) (n := 1) #[.int .i64 0, .string ⟨#[]⟩, .string ⟨#[]⟩] hg1.size (by unfold maxLen; omega) rfl
    go_wp2_with fail
    go_ret
    exact ⟨_, 1, 1, [⟨0, ⟨#[]⟩, ⟨#[]⟩⟩], rfl, ON, by omega, by simp only [List.mem_singleton, forall_eq]; exact ⟨⟨by simp, by simp⟩, by decide, by decide⟩, hg1.trans (World.grownBy_alloc w1 _ _), hc1.below (below_box _ _)⟩
  · go_wp2_with fail
    refine (l6Draw_one g _ hc1).mono ?_; rintro e w2 ⟨A2, n2, c2, l2, rfl, o2, hn2, hok2, hg2, hc2⟩
    have o2 := own_base o2 hg1.size
    go_wp2_with fail
    go_ret
    exact ⟨_, _, _, _, rfl, o2, hn2, hok2, hg1.trans hg2, hc2⟩
/-- In the midst of a region more can be held. -/
theorem wpAnyH_more {P : Program} {md : Region.Mode} {ops : Array Oper} {Q : Exit → Act → World → Prop} {S S' : World → Prop} (hS : ∀ w, S' w → S w) : ∀ (fuel : Nat) (listed : Array Bool) (a : Act) (w : World), wpAnyH P md ops Q S' fuel listed a w → wpAnyH P md ops Q S fuel listed a w
  | 0, _, _, _, h => h
  | fuel + 1, _, _, _, h => ⟨h.1, fun i hi => wpOp_mono (fun a' w' h' => ⟨hS _ h'.1, wpAnyH_more hS fuel _ a' w' h'.2⟩) (h.2 i hi)⟩
theorem RS_blk {w : World} {b n : Nat} {cs : Array Value} {t : TypeId} (h : w.heap[b]? = some (.cells cs t (0, 0))) (hn : cs.size = n) : RS w 1 (some ⟨b, 0, none⟩) n cs.toList :=
  ⟨by simp [hn], fun _ => ⟨b, 0, rfl, fun j u hu => by rw [Nat.zero_add]; exact blk_at h (by simpa using hu)⟩⟩
/-- Choices drawn by cursor g. -/
def DrawnPk (g : Nat) (w : World) (e : Ending) (w' : World) : Prop :=
  ∃ (A : Option Addr) (n c : Nat) (l : List Pk), e = .returned (.slice A n c) ∧ w'.ownsRow w.heap.size 86 2 (.slice A n c) n (l.flatMap pkCell) ∧ n ≤ 3 ∧ w.grownBy w' (some g) ∧ Cur w' g
set_option maxRecDepth 100000 in
set_option maxHeartbeats 2000000 in
theorem l6Choice_any (g : Nat) (w : World) (hc : Cur w g) :
    Calls Try.prog 58 #[.pointer (some ⟨g, 0, none⟩)] w (DrawnPk g w) := by
  have hlt := hc.lt
  obtain ⟨i0, hi, hz0, hz1, hz2⟩ := info_parts pkInfo
  have O0 := own_empty w w.heap.size 86 2 (Nat.le_refl _)
  have G0 := World.grownBy_alloc w (Obj.cells #[] 86) (some g)
  have C0 := hc.below (below_box w (Obj.cells #[] 86))
  clear hc
  go_enter Try.func58, Try.ntmps58
  go_wp2_with fail
  go_loopw [3, 4] (fun st i wr => ∃ (k : Nat) (A : Option Addr) (n c : Nat) (l : List Pk), k ≤ 3 ∧ i = .int .i64 k ∧ st = .slice A n c ∧ n ≤ k ∧ wr.ownsRow w.heap.size 86 2 (.slice A n c) n (l.flatMap pkCell) ∧ w.grownBy wr (some g) ∧ Cur wr g) (fun _ i _ => 3 - (intOf i).toNat)
  case atStart => exact ⟨0, _, 0, 0, [], Nat.zero_le _, rfl, rfl, Nat.le_refl _, by simpa using O0, G0, C0⟩
  case round =>
    obtain ⟨k, A, n, c, l, hk, rfl, rfl, hnk, ho, hg, hc⟩ := hrel
    clear O0 G0 C0
    by_cases hk3 : k < 3
    · have k1 : (0 : Int) ≤ k := by omega
      have k2 : (k : Int) < 3 := by omega
      go_wp2_with fail
      refine (l1Once_any g _ _ hc (by omega)).mono ?_; rintro e w2 ⟨b, rfl, hg2, hc2⟩
      have o2 := row_grown ho hg2 (cur_apart ho hlt)
      have G2 := hg.trans hg2
      clear ho hg hg2 hc
      cases b
      rotate_left
      · go_wp2_with fail
        go_roundw
        case rel => exact ⟨k + 1, A, n, c, l, by omega, by go_num, rfl, by omega, o2, G2, hc2⟩
        case measure => simp [intOf]; omega
      · have z2 := G2.size
        go_upto_region 6 with fail
        obtain ⟨ck, hck⟩ : ∃ ck, (#[.string ⟨#[67, 79, 76, 79, 82]⟩, .string ⟨#[83, 73, 90, 69]⟩, .string ⟨#[76, 73, 68]⟩] : Array Value)[k]? = some (.string ck) := by
          have : k = 0 ∨ k = 1 ∨ k = 2 := by omega
          rcases this with rfl | rfl | rfl <;> exact ⟨_, rfl⟩
        have HCK := Lib.hid hck
        clear hck
        refine wp_region_held_drew (S := fun _ => True) (by kernel_rfl) trivial (fun hHeld => ?_)
        refine wpAnyH_take (i := 0) (oi := ?_) (v := ?_) (by simp only [List.getElem?_toArray, List.getElem?_cons_zero]; rfl) (by kernel_rfl) (by kernel_rfl) (by kernel_rfl) ?_ (Or.inl ⟨by rfl, ?_⟩) hHeld ?_
        rotate_left 1
        focus exact fun _ _ _ h => h
        focus (intro w hSw; (try dsimp only at hSw); go_simp; try with_reducible rfl)
        (try simp only [Act.put, List.setIfInBounds_toArray, List.set_cons_zero, List.set_cons_succ])
        refine wpAnyH_take (i := 2) (oi := ?_) (v := ?_) (by simp only [List.getElem?_toArray, List.getElem?_cons_succ, List.getElem?_cons_zero]; rfl) (by kernel_rfl) (by kernel_rfl) (by kernel_rfl) ?_ (Or.inl ⟨by rfl, ?_⟩) hHeld ?_
        rotate_left 1
        focus exact fun _ _ _ h => h
        focus (intro w hSw; (try dsimp only at hSw); go_simp; try with_reducible rfl)
        (try simp only [Act.put, List.setIfInBounds_toArray, List.set_cons_zero, List.set_cons_succ])
        refine wpAnyH_take (i := 5) (oi := ?_) (v := ?_) (by simp only [List.getElem?_toArray, List.getElem?_cons_succ, List.getElem?_cons_zero]; rfl) (by kernel_rfl) (by kernel_rfl) (by kernel_rfl) ?_ (Or.inl ⟨by rfl, ?_⟩) hHeld ?_
        rotate_left 1
        focus exact fun _ _ _ h => h
        focus (intro w hSw; (try dsimp only at hSw); go_simp; try with_reducible rfl)
        (try simp only [Act.put, List.setIfInBounds_toArray, List.set_cons_zero, List.set_cons_succ])
        refine wpAnyH_ready (rs := [1, 6]) (by kernel_rfl) (by simp) ?_
        refine AllReadyH.cons (o := ?_) (by simp only [List.getElem?_toArray, List.getElem?_cons_succ, List.getElem?_cons_zero]; rfl) (fun K hK => ?_) (AllReadyH.cons (o := ?_) (by simp only [List.getElem?_toArray, List.getElem?_cons_succ, List.getElem?_cons_zero]; rfl) (fun K hK => ?_) AllReadyH.nil)
        · go_simp
          have XN : Hid ((w2.drew.alloc (Obj.cells #[.string ⟨#[67, 79, 76, 79, 82]⟩, .string ⟨#[83, 73, 90, 69]⟩, .string ⟨#[76, 73, 68]⟩] 9)).heap[w2.heap.size]? = some (Obj.cells #[.string ⟨#[67, 79, 76, 79, 82]⟩, .string ⟨#[83, 73, 90, 69]⟩, .string ⟨#[76, 73, 68]⟩] 9 (0, 0))) := Lib.hid (blk_new1 w2 (Obj.cells #[.string ⟨#[67, 79, 76, 79, 82]⟩, .string ⟨#[83, 73, 90, 69]⟩, .string ⟨#[76, 73, 68]⟩] 9))
          refine hK.out _ _ (trivial) (fun hHeld => ?_)
          clear hK K
          (try simp only [Act.put, List.setIfInBounds_toArray, List.set_cons_zero, List.set_cons_succ])
          refine wpAnyH_more (S' := fun v => v.cell? ⟨w2.heap.size, k, none⟩ = some (.string ck)) (fun _ _ => trivial) _ _ _ _ ?_
          replace hHeld := blk_at XN.out HCK.out
          refine wpAnyH_take (i := 3) (oi := ?_) (v := ?_) (by simp only [List.getElem?_toArray, List.getElem?_cons_succ, List.getElem?_cons_zero]; rfl) (by kernel_rfl) (by kernel_rfl) (by kernel_rfl) ?_ (Or.inl ⟨by rfl, ?_⟩) hHeld ?_
          rotate_left 1
          focus exact fun _ _ _ h => h
          focus (intro w hSw; (try dsimp only at hSw); go_simp; try with_reducible rfl)
          (try simp only [Act.put, List.setIfInBounds_toArray, List.set_cons_zero, List.set_cons_succ])
          refine wpAnyH_take (i := 4) (oi := ?_) (v := ?_) (by simp only [List.getElem?_toArray, List.getElem?_cons_succ, List.getElem?_cons_zero]; rfl) (by kernel_rfl) (by kernel_rfl) (by kernel_rfl) ?_ (Or.inl ⟨by rfl, ?_⟩) hHeld ?_
          rotate_left 1
          focus exact fun _ _ _ h => h
          focus (intro w hSw; (try dsimp only at hSw); go_simp; try with_reducible rfl)
          (try simp only [Act.put, List.setIfInBounds_toArray, List.set_cons_zero, List.set_cons_succ])
          refine wpAnyH_ready (rs := [6]) (by kernel_rfl) (by simp) ?_
          refine AllReadyH.cons (o := ?_) (by simp only [List.getElem?_toArray, List.getElem?_cons_succ, List.getElem?_cons_zero]; rfl) (fun K hK => ?_) AllReadyH.nil
          go_simp
          have XM : Hid (((w2.alloc (Obj.cells #[.string ⟨#[67, 79, 76, 79, 82]⟩, .string ⟨#[83, 73, 90, 69]⟩, .string ⟨#[76, 73, 68]⟩] 9)).alloc (Obj.cells #[.string ⟨#[88]⟩, .string ⟨#[89]⟩, .string ⟨#[90]⟩] 9)).heap[w2.heap.size]? = some (Obj.cells #[.string ⟨#[67, 79, 76, 79, 82]⟩, .string ⟨#[83, 73, 90, 69]⟩, .string ⟨#[76, 73, 68]⟩] 9 (0, 0))) := Lib.hid (blk_alloc (blk_new1 w2 (Obj.cells #[.string ⟨#[67, 79, 76, 79, 82]⟩, .string ⟨#[83, 73, 90, 69]⟩, .string ⟨#[76, 73, 68]⟩] 9)) _)
          have XY : Hid (((w2.alloc (Obj.cells #[.string ⟨#[67, 79, 76, 79, 82]⟩, .string ⟨#[83, 73, 90, 69]⟩, .string ⟨#[76, 73, 68]⟩] 9)).alloc (Obj.cells #[.string ⟨#[88]⟩, .string ⟨#[89]⟩, .string ⟨#[90]⟩] 9)).heap[w2.heap.size + 1]? = some (Obj.cells #[.string ⟨#[88]⟩, .string ⟨#[89]⟩, .string ⟨#[90]⟩] 9 (0, 0))) := Lib.hid (blk_new2 w2 (Obj.cells #[.string ⟨#[67, 79, 76, 79, 82]⟩, .string ⟨#[83, 73, 90, 69]⟩, .string ⟨#[76, 73, 68]⟩] 9) (Obj.cells #[.string ⟨#[88]⟩, .string ⟨#[89]⟩, .string ⟨#[90]⟩] 9))
          have BB : Below w2.heap.size w2 ((w2.alloc (Obj.cells #[.string ⟨#[67, 79, 76, 79, 82]⟩, .string ⟨#[83, 73, 90, 69]⟩, .string ⟨#[76, 73, 68]⟩] 9)).alloc (Obj.cells #[.string ⟨#[88]⟩, .string ⟨#[89]⟩, .string ⟨#[90]⟩] 9)) := ((Below.refl w2.heap.size w2).alloc (Nat.le_refl _) (Obj.cells #[.string ⟨#[67, 79, 76, 79, 82]⟩, .string ⟨#[83, 73, 90, 69]⟩, .string ⟨#[76, 73, 68]⟩] 9)).alloc (Nat.le_trans (Nat.le_refl w2.heap.size) (below_box w2 (Obj.cells #[.string ⟨#[67, 79, 76, 79, 82]⟩, .string ⟨#[83, 73, 90, 69]⟩, .string ⟨#[76, 73, 68]⟩] 9)).size) (Obj.cells #[.string ⟨#[88]⟩, .string ⟨#[89]⟩, .string ⟨#[90]⟩] 9)
          refine hK.out _ _ ((blk_at XM.out HCK.out)) (fun hHeld => ?_)
          clear hK K
          (try simp only [Act.put, List.setIfInBounds_toArray, List.set_cons_zero, List.set_cons_succ])
          refine wpAnyH_ready (rs := [7]) (by kernel_rfl) (by simp) ?_
          refine AllReadyH.cons (o := ?_) (by simp only [List.getElem?_toArray, List.getElem?_cons_succ, List.getElem?_cons_zero]; rfl) (fun K hK => ?_) AllReadyH.nil
          go_simp
          have CW : Cur ((w2.alloc (Obj.cells #[.string ⟨#[67, 79, 76, 79, 82]⟩, .string ⟨#[83, 73, 90, 69]⟩, .string ⟨#[76, 73, 68]⟩] 9)).alloc (Obj.cells #[.string ⟨#[88]⟩, .string ⟨#[89]⟩, .string ⟨#[90]⟩] 9)).drew g := hc2.below BB.drew
          have GW : w.grownBy ((w2.alloc (Obj.cells #[.string ⟨#[67, 79, 76, 79, 82]⟩, .string ⟨#[83, 73, 90, 69]⟩, .string ⟨#[76, 73, 68]⟩] 9)).alloc (Obj.cells #[.string ⟨#[88]⟩, .string ⟨#[89]⟩, .string ⟨#[90]⟩] 9)).drew (some g) := grown_below G2 BB.drew
          have oW : ((w2.alloc (Obj.cells #[.string ⟨#[67, 79, 76, 79, 82]⟩, .string ⟨#[83, 73, 90, 69]⟩, .string ⟨#[76, 73, 68]⟩] 9)).alloc (Obj.cells #[.string ⟨#[88]⟩, .string ⟨#[89]⟩, .string ⟨#[90]⟩] 9)).drew.ownsRow w.heap.size 86 2 (.slice A n c) n (l.flatMap pkCell) := own_below o2 BB.drew
          have RX : RS ((w2.alloc (Obj.cells #[.string ⟨#[67, 79, 76, 79, 82]⟩, .string ⟨#[83, 73, 90, 69]⟩, .string ⟨#[76, 73, 68]⟩] 9)).alloc (Obj.cells #[.string ⟨#[88]⟩, .string ⟨#[89]⟩, .string ⟨#[90]⟩] 9)).drew 1 (some ⟨w2.heap.size + 1, 0, none⟩) 3 [.string ⟨#[88]⟩, .string ⟨#[89]⟩, .string ⟨#[90]⟩] := RS_blk XY.out rfl
          (go_at_call 80; refine (l1Pick_any g _ 3 3 [.string ⟨#[88]⟩, .string ⟨#[89]⟩, .string ⟨#[90]⟩] _ CW RX (by intro u hu; simp only [List.mem_cons, List.not_mem_nil, or_false] at hu; rcases hu with h | h | h <;> exact ⟨_, h, by decide⟩) (by omega) (by omega) (fun a e => by injection e with e; subst e; simp only; omega)).mono ?_; rintro e V ⟨x, rfl, hx, hgV, hcV⟩)
          go_wp2_with fail
          have o3 := row_grown oW hgV (cur_apart oW hlt)
          have G3 := GW.trans hgV
          have z3 := G3.size
          clear oW GW CW XY RX
          have XV := Lib.hid (blk_grown hgV XM.out (by omega))
          have NE : (Value.slice A n c).ownBlock ≠ some w2.heap.size := fun he => by have := (o2.lt _ he).2; omega
          clear XM XN hgV BB
          refine hK.out _ _ ((blk_at XV.out HCK.out)) (fun hHeld => ?_)
          clear hK K
          (try simp only [Act.put, List.setIfInBounds_toArray, List.set_cons_zero, List.set_cons_succ])
          refine wpAnyH_take (i := 8) (oi := ?_) (v := ?_) (by simp only [List.getElem?_toArray, List.getElem?_cons_succ, List.getElem?_cons_zero]; rfl) (by kernel_rfl) (by kernel_rfl) (by kernel_rfl) ?_ (Or.inl ⟨by rfl, ?_⟩) hHeld ?_
          rotate_left 1
          focus exact fun _ _ _ h => h
          focus (intro w hSw; (try dsimp only at hSw); go_simp; try with_reducible rfl)
          (try simp only [Act.put, List.setIfInBounds_toArray, List.set_cons_zero, List.set_cons_succ])
          refine wpAnyH_ready (rs := [9]) (by kernel_rfl) (by simp) ?_
          refine AllReadyH.cons (o := ?_) (by simp only [List.getElem?_toArray, List.getElem?_cons_succ, List.getElem?_cons_zero]; rfl) (fun K hK => ?_) AllReadyH.nil
          go_simp
          have XQ := Lib.hid (blk_alloc XV.out (Obj.cells #[.string ck, .string x] 86))
          have OB := o3.alloc (Obj.cells #[.string ck, .string x] 86)
          refine hK.out _ _ ((blk_at XQ.out HCK.out)) (fun hHeld => ?_)
          clear hK K
          (try simp only [Act.put, List.setIfInBounds_toArray, List.set_cons_zero, List.set_cons_succ])
          refine wpAnyH_ready (rs := [10]) (by kernel_rfl) (by simp) ?_
          refine AllReadyH.cons (o := ?_) (by simp only [List.getElem?_toArray, List.getElem?_cons_succ, List.getElem?_cons_zero]; rfl) (fun K hK => ?_) AllReadyH.nil
          (refine step_appB _ (by rfl) _ _ _ (by rfl) w.heap.size 86 i0 _ 2 32 Try.underlying42 hi hz0 hz1 hz2 rfl (by omega) (.slice A n c) n (l.flatMap pkCell) (by rfl) OB _ 1 1 (pkCell ⟨ck, x⟩) (by rfl) (RS_new (by simp)) (pkCell_one _) (by unfold maxLen; omega) (by omega) (by simp; omega) ?_; intro A6 c6 w6 o6 g6 at6 b6)
          have G6 := grown_own (G3.trans (World.grownBy_alloc V (Obj.cells #[.string ck, .string x] 86) (some g))) g6 (fun j hj => (OB.lt j hj).1)
          have C6 := cur_grown (hcV.below (below_box V (Obj.cells #[.string ck, .string x] 86))) g6 (fun j hj => by have := (OB.lt j hj).1; omega)
          have o7 : w6.ownsRow w.heap.size 86 2 (.slice A6 (n + 1) c6) (n + 1) ((l ++ [(⟨ck, x⟩ : Pk)]).flatMap pkCell) := by rw [flat_append, flat_one]; exact o6
          have X6 := Lib.hid ((g6.block w2.heap.size (Array.getElem?_eq_some_iff.1 XQ.out).1 (fun h => NE h.symm)).trans XQ.out)
          refine hK.out _ _ ((blk_at X6.out HCK.out)) (fun hHeld => ?_)
          clear hK K
          (try simp only [Act.put, List.setIfInBounds_toArray, List.set_cons_zero, List.set_cons_succ])
          refine wpAnyH_take (i := 11) (oi := ?_) (v := ?_) (by simp only [List.getElem?_toArray, List.getElem?_cons_succ, List.getElem?_cons_zero]; rfl) (by kernel_rfl) (by kernel_rfl) (by kernel_rfl) ?_ (Or.inl ⟨by rfl, ?_⟩) hHeld ?_
          rotate_left 1
          focus exact fun _ _ _ h => h
          focus (intro w hSw; (try dsimp only at hSw); go_simp; try with_reducible rfl)
          (try simp only [Act.put, List.setIfInBounds_toArray, List.set_cons_zero, List.set_cons_succ])
          refine wpAnyH_done (by kernel_rfl) ?_ _
          clear hHeld o6 g6 at6 b6 OB XQ X6 XV o3 G3 hcV
          go_wp2_with fail
          go_roundw
          case rel => exact ⟨k + 1, A6, n + 1, c6, _, by omega, by go_num, rfl, by omega, o7, G6, C6⟩
          case measure => simp [intOf]; omega
        · go_simp
          refine hK.out _ _ (trivial) (fun hHeld => ?_)
          clear hK K
          (try simp only [Act.put, List.setIfInBounds_toArray, List.set_cons_zero, List.set_cons_succ])
          refine wpAnyH_ready (rs := [1, 7]) (by kernel_rfl) (by simp) ?_
          refine AllReadyH.cons (o := ?_) (by simp only [List.getElem?_toArray, List.getElem?_cons_succ, List.getElem?_cons_zero]; rfl) (fun K hK => ?_) (AllReadyH.cons (o := ?_) (by simp only [List.getElem?_toArray, List.getElem?_cons_succ, List.getElem?_cons_zero]; rfl) (fun K hK => ?_) AllReadyH.nil)
          · go_simp
            have XM : Hid (((w2.alloc (Obj.cells #[.string ⟨#[88]⟩, .string ⟨#[89]⟩, .string ⟨#[90]⟩] 9)).alloc (Obj.cells #[.string ⟨#[67, 79, 76, 79, 82]⟩, .string ⟨#[83, 73, 90, 69]⟩, .string ⟨#[76, 73, 68]⟩] 9)).heap[w2.heap.size + 1]? = some (Obj.cells #[.string ⟨#[67, 79, 76, 79, 82]⟩, .string ⟨#[83, 73, 90, 69]⟩, .string ⟨#[76, 73, 68]⟩] 9 (0, 0))) := Lib.hid (blk_new2 w2 (Obj.cells #[.string ⟨#[88]⟩, .string ⟨#[89]⟩, .string ⟨#[90]⟩] 9) (Obj.cells #[.string ⟨#[67, 79, 76, 79, 82]⟩, .string ⟨#[83, 73, 90, 69]⟩, .string ⟨#[76, 73, 68]⟩] 9))
            have XY : Hid (((w2.alloc (Obj.cells #[.string ⟨#[88]⟩, .string ⟨#[89]⟩, .string ⟨#[90]⟩] 9)).alloc (Obj.cells #[.string ⟨#[67, 79, 76, 79, 82]⟩, .string ⟨#[83, 73, 90, 69]⟩, .string ⟨#[76, 73, 68]⟩] 9)).heap[w2.heap.size]? = some (Obj.cells #[.string ⟨#[88]⟩, .string ⟨#[89]⟩, .string ⟨#[90]⟩] 9 (0, 0))) := Lib.hid (blk_alloc (blk_new1 w2 (Obj.cells #[.string ⟨#[88]⟩, .string ⟨#[89]⟩, .string ⟨#[90]⟩] 9)) _)
            have BB : Below w2.heap.size w2 ((w2.alloc (Obj.cells #[.string ⟨#[88]⟩, .string ⟨#[89]⟩, .string ⟨#[90]⟩] 9)).alloc (Obj.cells #[.string ⟨#[67, 79, 76, 79, 82]⟩, .string ⟨#[83, 73, 90, 69]⟩, .string ⟨#[76, 73, 68]⟩] 9)) := ((Below.refl w2.heap.size w2).alloc (Nat.le_refl _) (Obj.cells #[.string ⟨#[88]⟩, .string ⟨#[89]⟩, .string ⟨#[90]⟩] 9)).alloc (Nat.le_trans (Nat.le_refl w2.heap.size) (below_box w2 (Obj.cells #[.string ⟨#[88]⟩, .string ⟨#[89]⟩, .string ⟨#[90]⟩] 9)).size) (Obj.cells #[.string ⟨#[67, 79, 76, 79, 82]⟩, .string ⟨#[83, 73, 90, 69]⟩, .string ⟨#[76, 73, 68]⟩] 9)
            refine hK.out _ _ (trivial) (fun hHeld => ?_)
            clear hK K
            (try simp only [Act.put, List.setIfInBounds_toArray, List.set_cons_zero, List.set_cons_succ])
            refine wpAnyH_more (S' := fun v => v.cell? ⟨w2.heap.size + 1, k, none⟩ = some (.string ck)) (fun _ _ => trivial) _ _ _ _ ?_
            replace hHeld := blk_at XM.out HCK.out
            refine wpAnyH_take (i := 3) (oi := ?_) (v := ?_) (by simp only [List.getElem?_toArray, List.getElem?_cons_succ, List.getElem?_cons_zero]; rfl) (by kernel_rfl) (by kernel_rfl) (by kernel_rfl) ?_ (Or.inl ⟨by rfl, ?_⟩) hHeld ?_
            rotate_left 1
            focus exact fun _ _ _ h => h
            focus (intro w hSw; (try dsimp only at hSw); go_simp; try with_reducible rfl)
            (try simp only [Act.put, List.setIfInBounds_toArray, List.set_cons_zero, List.set_cons_succ])
            refine wpAnyH_take (i := 4) (oi := ?_) (v := ?_) (by simp only [List.getElem?_toArray, List.getElem?_cons_succ, List.getElem?_cons_zero]; rfl) (by kernel_rfl) (by kernel_rfl) (by kernel_rfl) ?_ (Or.inl ⟨by rfl, ?_⟩) hHeld ?_
            rotate_left 1
            focus exact fun _ _ _ h => h
            focus (intro w hSw; (try dsimp only at hSw); go_simp; try with_reducible rfl)
            (try simp only [Act.put, List.setIfInBounds_toArray, List.set_cons_zero, List.set_cons_succ])
            refine wpAnyH_ready (rs := [7]) (by kernel_rfl) (by simp) ?_
            refine AllReadyH.cons (o := ?_) (by simp only [List.getElem?_toArray, List.getElem?_cons_succ, List.getElem?_cons_zero]; rfl) (fun K hK => ?_) AllReadyH.nil
            go_simp
            have CW : Cur ((w2.alloc (Obj.cells #[.string ⟨#[88]⟩, .string ⟨#[89]⟩, .string ⟨#[90]⟩] 9)).alloc (Obj.cells #[.string ⟨#[67, 79, 76, 79, 82]⟩, .string ⟨#[83, 73, 90, 69]⟩, .string ⟨#[76, 73, 68]⟩] 9)).drew g := hc2.below BB.drew
            have GW : w.grownBy ((w2.alloc (Obj.cells #[.string ⟨#[88]⟩, .string ⟨#[89]⟩, .string ⟨#[90]⟩] 9)).alloc (Obj.cells #[.string ⟨#[67, 79, 76, 79, 82]⟩, .string ⟨#[83, 73, 90, 69]⟩, .string ⟨#[76, 73, 68]⟩] 9)).drew (some g) := grown_below G2 BB.drew
            have oW : ((w2.alloc (Obj.cells #[.string ⟨#[88]⟩, .string ⟨#[89]⟩, .string ⟨#[90]⟩] 9)).alloc (Obj.cells #[.string ⟨#[67, 79, 76, 79, 82]⟩, .string ⟨#[83, 73, 90, 69]⟩, .string ⟨#[76, 73, 68]⟩] 9)).drew.ownsRow w.heap.size 86 2 (.slice A n c) n (l.flatMap pkCell) := own_below o2 BB.drew
            have RX : RS ((w2.alloc (Obj.cells #[.string ⟨#[88]⟩, .string ⟨#[89]⟩, .string ⟨#[90]⟩] 9)).alloc (Obj.cells #[.string ⟨#[67, 79, 76, 79, 82]⟩, .string ⟨#[83, 73, 90, 69]⟩, .string ⟨#[76, 73, 68]⟩] 9)).drew 1 (some ⟨w2.heap.size, 0, none⟩) 3 [.string ⟨#[88]⟩, .string ⟨#[89]⟩, .string ⟨#[90]⟩] := RS_blk XY.out rfl
            (go_at_call 80; refine (l1Pick_any g _ 3 3 [.string ⟨#[88]⟩, .string ⟨#[89]⟩, .string ⟨#[90]⟩] _ CW RX (by intro u hu; simp only [List.mem_cons, List.not_mem_nil, or_false] at hu; rcases hu with h | h | h <;> exact ⟨_, h, by decide⟩) (by omega) (by omega) (fun a e => by injection e with e; subst e; simp only; omega)).mono ?_; rintro e V ⟨x, rfl, hx, hgV, hcV⟩)
            go_wp2_with fail
            have o3 := row_grown oW hgV (cur_apart oW hlt)
            have G3 := GW.trans hgV
            have z3 := G3.size
            clear oW GW CW XY RX
            have XV := Lib.hid (blk_grown hgV XM.out (by omega))
            have NE : (Value.slice A n c).ownBlock ≠ some (w2.heap.size + 1) := fun he => by have := (o2.lt _ he).2; omega
            clear XM hgV BB
            refine hK.out _ _ ((blk_at XV.out HCK.out)) (fun hHeld => ?_)
            clear hK K
            (try simp only [Act.put, List.setIfInBounds_toArray, List.set_cons_zero, List.set_cons_succ])
            refine wpAnyH_take (i := 8) (oi := ?_) (v := ?_) (by simp only [List.getElem?_toArray, List.getElem?_cons_succ, List.getElem?_cons_zero]; rfl) (by kernel_rfl) (by kernel_rfl) (by kernel_rfl) ?_ (Or.inl ⟨by rfl, ?_⟩) hHeld ?_
            rotate_left 1
            focus exact fun _ _ _ h => h
            focus (intro w hSw; (try dsimp only at hSw); go_simp; try with_reducible rfl)
            (try simp only [Act.put, List.setIfInBounds_toArray, List.set_cons_zero, List.set_cons_succ])
            refine wpAnyH_ready (rs := [9]) (by kernel_rfl) (by simp) ?_
            refine AllReadyH.cons (o := ?_) (by simp only [List.getElem?_toArray, List.getElem?_cons_succ, List.getElem?_cons_zero]; rfl) (fun K hK => ?_) AllReadyH.nil
            go_simp
            have XQ := Lib.hid (blk_alloc XV.out (Obj.cells #[.string ck, .string x] 86))
            have OB := o3.alloc (Obj.cells #[.string ck, .string x] 86)
            refine hK.out _ _ ((blk_at XQ.out HCK.out)) (fun hHeld => ?_)
            clear hK K
            (try simp only [Act.put, List.setIfInBounds_toArray, List.set_cons_zero, List.set_cons_succ])
            refine wpAnyH_ready (rs := [10]) (by kernel_rfl) (by simp) ?_
            refine AllReadyH.cons (o := ?_) (by simp only [List.getElem?_toArray, List.getElem?_cons_succ, List.getElem?_cons_zero]; rfl) (fun K hK => ?_) AllReadyH.nil
            (refine step_appB _ (by rfl) _ _ _ (by rfl) w.heap.size 86 i0 _ 2 32 Try.underlying42 hi hz0 hz1 hz2 rfl (by omega) (.slice A n c) n (l.flatMap pkCell) (by rfl) OB _ 1 1 (pkCell ⟨ck, x⟩) (by rfl) (RS_new (by simp)) (pkCell_one _) (by unfold maxLen; omega) (by omega) (by simp; omega) ?_; intro A6 c6 w6 o6 g6 at6 b6)
            have G6 := grown_own (G3.trans (World.grownBy_alloc V (Obj.cells #[.string ck, .string x] 86) (some g))) g6 (fun j hj => (OB.lt j hj).1)
            have C6 := cur_grown (hcV.below (below_box V (Obj.cells #[.string ck, .string x] 86))) g6 (fun j hj => by have := (OB.lt j hj).1; omega)
            have o7 : w6.ownsRow w.heap.size 86 2 (.slice A6 (n + 1) c6) (n + 1) ((l ++ [(⟨ck, x⟩ : Pk)]).flatMap pkCell) := by rw [flat_append, flat_one]; exact o6
            have X6 := Lib.hid ((g6.block (w2.heap.size + 1) (Array.getElem?_eq_some_iff.1 XQ.out).1 (fun h => NE h.symm)).trans XQ.out)
            refine hK.out _ _ ((blk_at X6.out HCK.out)) (fun hHeld => ?_)
            clear hK K
            (try simp only [Act.put, List.setIfInBounds_toArray, List.set_cons_zero, List.set_cons_succ])
            refine wpAnyH_take (i := 11) (oi := ?_) (v := ?_) (by simp only [List.getElem?_toArray, List.getElem?_cons_succ, List.getElem?_cons_zero]; rfl) (by kernel_rfl) (by kernel_rfl) (by kernel_rfl) ?_ (Or.inl ⟨by rfl, ?_⟩) hHeld ?_
            rotate_left 1
            focus exact fun _ _ _ h => h
            focus (intro w hSw; (try dsimp only at hSw); go_simp; try with_reducible rfl)
            (try simp only [Act.put, List.setIfInBounds_toArray, List.set_cons_zero, List.set_cons_succ])
            refine wpAnyH_done (by kernel_rfl) ?_ _
            clear hHeld o6 g6 at6 b6 OB XQ X6 XV o3 G3 hcV
            go_wp2_with fail
            go_roundw
            case rel => exact ⟨k + 1, A6, n + 1, c6, _, by omega, by go_num, rfl, by omega, o7, G6, C6⟩
            case measure => simp [intOf]; omega
          · go_simp
            have XY : Hid ((w2.alloc (Obj.cells #[.string ⟨#[88]⟩, .string ⟨#[89]⟩, .string ⟨#[90]⟩] 9)).heap[w2.heap.size]? = some (Obj.cells #[.string ⟨#[88]⟩, .string ⟨#[89]⟩, .string ⟨#[90]⟩] 9 (0, 0))) := Lib.hid (blk_new1 w2 (Obj.cells #[.string ⟨#[88]⟩, .string ⟨#[89]⟩, .string ⟨#[90]⟩] 9))
            have BB : Below w2.heap.size w2 (w2.alloc (Obj.cells #[.string ⟨#[88]⟩, .string ⟨#[89]⟩, .string ⟨#[90]⟩] 9)) := below_box w2 (Obj.cells #[.string ⟨#[88]⟩, .string ⟨#[89]⟩, .string ⟨#[90]⟩] 9)
            have CW : Cur (w2.alloc (Obj.cells #[.string ⟨#[88]⟩, .string ⟨#[89]⟩, .string ⟨#[90]⟩] 9)).drew g := hc2.below BB.drew
            have GW : w.grownBy (w2.alloc (Obj.cells #[.string ⟨#[88]⟩, .string ⟨#[89]⟩, .string ⟨#[90]⟩] 9)).drew (some g) := grown_below G2 BB.drew
            have oW : (w2.alloc (Obj.cells #[.string ⟨#[88]⟩, .string ⟨#[89]⟩, .string ⟨#[90]⟩] 9)).drew.ownsRow w.heap.size 86 2 (.slice A n c) n (l.flatMap pkCell) := own_below o2 BB.drew
            have RX : RS (w2.alloc (Obj.cells #[.string ⟨#[88]⟩, .string ⟨#[89]⟩, .string ⟨#[90]⟩] 9)).drew 1 (some ⟨w2.heap.size, 0, none⟩) 3 [.string ⟨#[88]⟩, .string ⟨#[89]⟩, .string ⟨#[90]⟩] := RS_blk XY.out rfl
            (go_at_call 80; refine (l1Pick_any g _ 3 3 [.string ⟨#[88]⟩, .string ⟨#[89]⟩, .string ⟨#[90]⟩] _ CW RX (by intro u hu; simp only [List.mem_cons, List.not_mem_nil, or_false] at hu; rcases hu with h | h | h <;> exact ⟨_, h, by decide⟩) (by omega) (by omega) (fun a e => by injection e with e; subst e; simp only; omega)).mono ?_; rintro e V0 ⟨x, rfl, hx, hgV, hcV⟩)
            go_wp2_with fail
            have oV := row_grown oW hgV (cur_apart oW hlt)
            have GV := GW.trans hgV
            have zV := GV.size
            clear oW GW CW XY RX
            clear hgV BB
            refine hK.out _ _ (trivial) (fun hHeld => ?_)
            clear hK K
            (try simp only [Act.put, List.setIfInBounds_toArray, List.set_cons_zero, List.set_cons_succ])
            refine wpAnyH_ready (rs := [1]) (by kernel_rfl) (by simp) ?_
            refine AllReadyH.cons (o := ?_) (by simp only [List.getElem?_toArray, List.getElem?_cons_succ, List.getElem?_cons_zero]; rfl) (fun K hK => ?_) AllReadyH.nil
            go_simp
            obtain ⟨V, hV⟩ : ∃ V, V = V0.alloc (Obj.cells #[.string ⟨#[67, 79, 76, 79, 82]⟩, .string ⟨#[83, 73, 90, 69]⟩, .string ⟨#[76, 73, 68]⟩] 9) := ⟨_, rfl⟩
            have XV : Hid (V.heap[V0.heap.size]? = some (Obj.cells #[.string ⟨#[67, 79, 76, 79, 82]⟩, .string ⟨#[83, 73, 90, 69]⟩, .string ⟨#[76, 73, 68]⟩] 9 (0, 0))) := Lib.hid (by rw [hV]; exact blk_new1 V0 _)
            have o3 : V.ownsRow w.heap.size 86 2 (.slice A n c) n (l.flatMap pkCell) := by rw [hV]; exact oV.alloc _
            have G3 : w.grownBy V (some g) := by rw [hV]; exact GV.trans (World.grownBy_alloc V0 _ _)
            have hcV : Cur V g := by rw [hV]; exact hcV.below (below_box _ _)
            have z3 := G3.size
            have NE : (Value.slice A n c).ownBlock ≠ some V0.heap.size := fun he => by have := (oV.lt _ he).2; omega
            rw [← hV]
            clear hV
            refine hK.out _ _ (trivial) (fun hHeld => ?_)
            clear hK K
            (try simp only [Act.put, List.setIfInBounds_toArray, List.set_cons_zero, List.set_cons_succ])
            refine wpAnyH_more (S' := fun v => v.cell? ⟨V0.heap.size, k, none⟩ = some (.string ck)) (fun _ _ => trivial) _ _ _ _ ?_
            replace hHeld := blk_at XV.out HCK.out
            refine wpAnyH_take (i := 3) (oi := ?_) (v := ?_) (by simp only [List.getElem?_toArray, List.getElem?_cons_succ, List.getElem?_cons_zero]; rfl) (by kernel_rfl) (by kernel_rfl) (by kernel_rfl) ?_ (Or.inl ⟨by rfl, ?_⟩) hHeld ?_
            rotate_left 1
            focus exact fun _ _ _ h => h
            focus (intro w hSw; (try dsimp only at hSw); go_simp; try with_reducible rfl)
            (try simp only [Act.put, List.setIfInBounds_toArray, List.set_cons_zero, List.set_cons_succ])
            refine wpAnyH_take (i := 4) (oi := ?_) (v := ?_) (by simp only [List.getElem?_toArray, List.getElem?_cons_succ, List.getElem?_cons_zero]; rfl) (by kernel_rfl) (by kernel_rfl) (by kernel_rfl) ?_ (Or.inl ⟨by rfl, ?_⟩) hHeld ?_
            rotate_left 1
            focus exact fun _ _ _ h => h
            focus (intro w hSw; (try dsimp only at hSw); go_simp; try with_reducible rfl)
            (try simp only [Act.put, List.setIfInBounds_toArray, List.set_cons_zero, List.set_cons_succ])
            refine wpAnyH_take (i := 8) (oi := ?_) (v := ?_) (by simp only [List.getElem?_toArray, List.getElem?_cons_succ, List.getElem?_cons_zero]; rfl) (by kernel_rfl) (by kernel_rfl) (by kernel_rfl) ?_ (Or.inl ⟨by rfl, ?_⟩) hHeld ?_
            rotate_left 1
            focus exact fun _ _ _ h => h
            focus (intro w hSw; (try dsimp only at hSw); go_simp; try with_reducible rfl)
            (try simp only [Act.put, List.setIfInBounds_toArray, List.set_cons_zero, List.set_cons_succ])
            refine wpAnyH_ready (rs := [9]) (by kernel_rfl) (by simp) ?_
            refine AllReadyH.cons (o := ?_) (by simp only [List.getElem?_toArray, List.getElem?_cons_succ, List.getElem?_cons_zero]; rfl) (fun K hK => ?_) AllReadyH.nil
            go_simp
            have XQ := Lib.hid (blk_alloc XV.out (Obj.cells #[.string ck, .string x] 86))
            have OB := o3.alloc (Obj.cells #[.string ck, .string x] 86)
            refine hK.out _ _ ((blk_at XQ.out HCK.out)) (fun hHeld => ?_)
            clear hK K
            (try simp only [Act.put, List.setIfInBounds_toArray, List.set_cons_zero, List.set_cons_succ])
            refine wpAnyH_ready (rs := [10]) (by kernel_rfl) (by simp) ?_
            refine AllReadyH.cons (o := ?_) (by simp only [List.getElem?_toArray, List.getElem?_cons_succ, List.getElem?_cons_zero]; rfl) (fun K hK => ?_) AllReadyH.nil
            (refine step_appB _ (by rfl) _ _ _ (by rfl) w.heap.size 86 i0 _ 2 32 Try.underlying42 hi hz0 hz1 hz2 rfl (by omega) (.slice A n c) n (l.flatMap pkCell) (by rfl) OB _ 1 1 (pkCell ⟨ck, x⟩) (by rfl) (RS_new (by simp)) (pkCell_one _) (by unfold maxLen; omega) (by omega) (by simp; omega) ?_; intro A6 c6 w6 o6 g6 at6 b6)
            have G6 := grown_own (G3.trans (World.grownBy_alloc V (Obj.cells #[.string ck, .string x] 86) (some g))) g6 (fun j hj => (OB.lt j hj).1)
            have C6 := cur_grown (hcV.below (below_box V (Obj.cells #[.string ck, .string x] 86))) g6 (fun j hj => by have := (OB.lt j hj).1; omega)
            have o7 : w6.ownsRow w.heap.size 86 2 (.slice A6 (n + 1) c6) (n + 1) ((l ++ [(⟨ck, x⟩ : Pk)]).flatMap pkCell) := by rw [flat_append, flat_one]; exact o6
            have X6 := Lib.hid ((g6.block V0.heap.size (Array.getElem?_eq_some_iff.1 XQ.out).1 (fun h => NE h.symm)).trans XQ.out)
            refine hK.out _ _ ((blk_at X6.out HCK.out)) (fun hHeld => ?_)
            clear hK K
            (try simp only [Act.put, List.setIfInBounds_toArray, List.set_cons_zero, List.set_cons_succ])
            refine wpAnyH_take (i := 11) (oi := ?_) (v := ?_) (by simp only [List.getElem?_toArray, List.getElem?_cons_succ, List.getElem?_cons_zero]; rfl) (by kernel_rfl) (by kernel_rfl) (by kernel_rfl) ?_ (Or.inl ⟨by rfl, ?_⟩) hHeld ?_
            rotate_left 1
            focus exact fun _ _ _ h => h
            focus (intro w hSw; (try dsimp only at hSw); go_simp; try with_reducible rfl)
            (try simp only [Act.put, List.setIfInBounds_toArray, List.set_cons_zero, List.set_cons_succ])
            refine wpAnyH_done (by kernel_rfl) ?_ _
            clear hHeld o6 g6 at6 b6 OB XQ X6 XV o3 G3 hcV
            go_wp2_with fail
            go_roundw
            case rel => exact ⟨k + 1, A6, n + 1, c6, _, by omega, by go_num, rfl, by omega, o7, G6, C6⟩
            case measure => simp [intOf]; omega
    · obtain rfl : k = 3 := by omega
      go_wp2_with fail
      go_ret
      exact ⟨A, n, c, l, rfl, ho, by omega, hg, hc⟩
end Go.Proofs.Ytnhkpdaogclfjaa
