/- The walk of the drawing of catalogs. No condition. -/
import Derived.Test.YtnhkpdaogclfjaaDrawItem
namespace Go.Proofs.Ytnhkpdaogclfjaa
open Go.ChangeShapes Go.WideShapes Go.ChangeAt Go.RowKit

/-- Items drawn by cursor g. -/
def DrawnIts (g : Nat) (w : World) (e : Ending) (w' : World) : Prop :=
  ∃ (A : Option Addr) (n c : Nat) (l : List It), e = .returned (.slice A n c) ∧ w'.ownsRow w.heap.size 64 8 (.slice A n c) n (l.flatMap itCell) ∧ 0 < n ∧ n ≤ 6 ∧ (∀ x ∈ l, itOk x) ∧ w.grownBy w' (some g) ∧ Cur w' g
section
variable {w w0 : World} {base n c a g : Nat} {x z : It} {t : List It}
abbrev setIt (w : World) (a k : Nat) (y : It) : World :=
  (((((((w.setCell ⟨a, k, none⟩ (.string y.code)).setCell ⟨a, k + 1, none⟩ (.string y.unit)).setCell ⟨a, k + 2, none⟩ (.int .i64 y.kind)).setCell ⟨a, k + 3, none⟩ (.int .i64 y.lead)).setCell ⟨a, k + 4, none⟩ (.int .i64 y.rule)).setCell ⟨a, k + 5, none⟩ (.int .i64 y.size)).setCell ⟨a, k + 6, none⟩ (.int .i64 y.safety)).setCell ⟨a, k + 7, none⟩ (.int .i64 y.scrap)
theorem own_setIt0 (h : w.ownsRow base 64 8 (.slice (some ⟨a, 0, none⟩) n c) n ((x :: t).flatMap itCell)) (y : It) :
    (setIt w a 0 y).ownsRow base 64 8 (.slice (some ⟨a, 0, none⟩) n c) n ((y :: t).flatMap itCell) :=
  (((((((((h.stored 0 (.string y.code)).1).stored 1 (.string y.unit)).1.stored 2 (.int .i64 y.kind)).1.stored 3 (.int .i64 y.lead)).1.stored 4 (.int .i64 y.rule)).1.stored 5 (.int .i64 y.size)).1.stored 6 (.int .i64 y.safety)).1.stored 7 (.int .i64 y.scrap)).1
theorem own_setIt1 (h : w.ownsRow base 64 8 (.slice (some ⟨a, 0, none⟩) n c) n ((x :: z :: t).flatMap itCell)) (y : It) :
    (setIt w a 8 y).ownsRow base 64 8 (.slice (some ⟨a, 0, none⟩) n c) n ((x :: y :: t).flatMap itCell) :=
  (((((((((h.stored 8 (.string y.code)).1).stored 9 (.string y.unit)).1.stored 10 (.int .i64 y.kind)).1.stored 11 (.int .i64 y.lead)).1.stored 12 (.int .i64 y.rule)).1.stored 13 (.int .i64 y.size)).1.stored 14 (.int .i64 y.safety)).1.stored 15 (.int .i64 y.scrap)).1
theorem grown_setIt (h : w0.grownBy w (some g)) (ha : w0.heap.size ≤ a) (k : Nat) (y : It) : w0.grownBy (setIt w a k y) (some g) :=
  grown_setNew' (grown_setNew' (grown_setNew' (grown_setNew' (grown_setNew' (grown_setNew' (grown_setNew' (grown_setNew' h ha _) ha _) ha _) ha _) ha _) ha _) ha _) ha _
theorem setIt_ne (w : World) {b : Nat} (h : a ≠ b) (k : Nat) (y : It) : (setIt w a k y).heap[b]? = w.heap[b]? := by
  have e : ∀ (V : World) (j : Nat) (v : Value), (V.setCell ⟨a, j, none⟩ v).heap[b]? = V.heap[b]? := fun V j v => Below.heap_setCell V ⟨a, j, none⟩ v b (by simp only; omega)
  unfold setIt
  rw [e, e, e, e, e, e, e, e]
theorem cur_setIt (h : Cur w g) (ha : g < a) (k : Nat) (y : It) : Cur (setIt w a k y) g :=
  cur_setNew' (cur_setNew' (cur_setNew' (cur_setNew' (cur_setNew' (cur_setNew' (cur_setNew' (cur_setNew' h ha _) ha _) ha _) ha _) ha _) ha _) ha _) ha _
end
set_option maxRecDepth 100000 in
set_option maxHeartbeats 4000000 in
theorem l8Catalog_any (g : Nat) (w : World) (hc : Cur w g) :
    Calls Try.prog 73 #[.pointer (some ⟨g, 0, none⟩)] w (DrawnIts g w) := by
  have hlt := hc.lt
  obtain ⟨i0, hi, hz0, hz1, hz2⟩ := info_parts itInfo
  go_enter Try.func73, Try.ntmps73
  go_wp2_with fail
  refine (l1Below_any g _ _ (hc.below (below_box _ _)) (by omega)).mono ?_; rintro e w1 ⟨m0, rfl, hm0, -, hm1, hg1, hc1⟩
  have hm2 := hm1 (by omega)
  have ho1 := row_grown (own_empty w w.heap.size 64 8 (Nat.le_refl _)) hg1 (cur_apart (own_empty w w.heap.size 64 8 (Nat.le_refl _)) hlt)
  have G1 := (World.grownBy_alloc w (Obj.cells #[] 64) (some g)).trans hg1
  clear hg1 hc hm1
  go_wp2_with fail
  go_loopw [3, 5] (fun v i wr => ∃ (k : Nat) (A : Option Addr) (c : Nat) (l : List It), (k : Int) ≤ 1 + m0 ∧ i = .int .i64 k ∧ v = .slice A k c ∧ wr.ownsRow w.heap.size 64 8 (.slice A k c) k (l.flatMap itCell) ∧ Hid (∀ x ∈ l, itOk x) ∧ w.grownBy wr (some g) ∧ Cur wr g) (fun _ i _ => (1 + m0).toNat - (intOf i).toNat)
  case atStart => exact ⟨0, _, 0, [], by omega, rfl, rfl, ho1, by simp [Hid], G1, hc1⟩
  case round =>
    obtain ⟨k, A, c, l, hk, rfl, rfl, ho, hok, hg, hc⟩ := hrel
    clear ho1 G1 hc1
    have hz := hg.size
    by_cases hk2 : (k : Int) < 1 + m0
    · have k6 : (k : Int) < 6 := by omega
      have k0 : (0 : Int) ≤ k := by omega
      obtain ⟨ck, hck, hcs⟩ : ∃ ck : ByteArray, (#[.string ⟨#[65]⟩, .string ⟨#[66]⟩, .string ⟨#[67]⟩, .string ⟨#[68]⟩, .string ⟨#[69]⟩, .string ⟨#[70]⟩] : Array Value)[k]? = some (.string ck) ∧ ck.size ≤ 9223372036854775807 := by
        have : k = 0 ∨ k = 1 ∨ k = 2 ∨ k = 3 ∨ k = 4 ∨ k = 5 := by omega
        rcases this with rfl | rfl | rfl | rfl | rfl | rfl <;> exact ⟨_, rfl, by decide⟩
      have XK := blk_at (blk_new1 wr (Obj.cells #[.string ⟨#[65]⟩, .string ⟨#[66]⟩, .string ⟨#[67]⟩, .string ⟨#[68]⟩, .string ⟨#[69]⟩, .string ⟨#[70]⟩] 9)) hck
      clear hck
      go_wp2_with fail
      refine (l8Item_any g ck _ (hc.below (below_box _ _)) hcs).mono ?_; rintro e w2 ⟨y, rfl, hy, hg2, hc2⟩
      have o2 := row_grown (ho.alloc (Obj.cells #[.string ⟨#[65]⟩, .string ⟨#[66]⟩, .string ⟨#[67]⟩, .string ⟨#[68]⟩, .string ⟨#[69]⟩, .string ⟨#[70]⟩] 9)) hg2 (cur_apart ho hlt)
      have G2 := (hg.trans (World.grownBy_alloc wr (Obj.cells #[.string ⟨#[65]⟩, .string ⟨#[66]⟩, .string ⟨#[67]⟩, .string ⟨#[68]⟩, .string ⟨#[69]⟩, .string ⟨#[70]⟩] 9) (some g))).trans hg2
      have z2 := G2.size
      have OB := o2.alloc (Obj.cells #[.string y.code, .string y.unit, .int .i64 y.kind, .int .i64 y.lead, .int .i64 y.rule, .int .i64 y.size, .int .i64 y.safety, .int .i64 y.scrap] 64)
      clear XK ho hg hc hg2
      go_wp2_with (at_builtin; refine wpList_app _ rfl _ _ _ rfl w.heap.size 64 i0 _ 8 80 Try.underlying27 hi hz0 hz1 hz2 rfl (by omega) _ k (l.flatMap itCell) rfl OB _ 1 1 (itCell y) rfl (RS_new (by simp)) (itCell_one _) (by unfold maxLen; omega) (by omega) (by simp; omega) ?_; intro A4 c4 w4 o4 g4 at4 b4)
      have o5 : w4.ownsRow w.heap.size 64 8 (.slice A4 (k + 1) c4) (k + 1) ((l ++ [y]).flatMap itCell) := by rw [flat_append, flat_one]; exact o4
      have G4 := grown_own (G2.trans (World.grownBy_alloc w2 (Obj.cells #[.string y.code, .string y.unit, .int .i64 y.kind, .int .i64 y.lead, .int .i64 y.rule, .int .i64 y.size, .int .i64 y.safety, .int .i64 y.scrap] 64) _)) g4 (fun j hj => (OB.lt j hj).1)
      have C4 := cur_grown (hc2.below (below_box w2 (Obj.cells #[.string y.code, .string y.unit, .int .i64 y.kind, .int .i64 y.lead, .int .i64 y.rule, .int .i64 y.size, .int .i64 y.safety, .int .i64 y.scrap] 64))) g4 (fun j hj => by have := (OB.lt j hj).1; omega)
      have OK4 : ∀ x ∈ l ++ [y], itOk x := snoc_mem hok.out hy
      clear o4 g4 at4 b4 OB o2 G2 hc2
      go_roundw
      case rel => exact ⟨k + 1, A4, c4, _, by omega, by go_num, rfl, o5, OK4, G4, C4⟩
      case measure => simp [intOf]; omega
    · have hk1 : 0 < k := by omega
      have hkm : (k : Int) = 1 + m0 := by omega
      go_wp2_with fail
      refine (l1Once_any g _ _ hc (by omega)).mono ?_; rintro e w2 ⟨b, rfl, hg2, hc2⟩
      have o2 := row_grown ho hg2 (cur_apart ho hlt)
      have G2 := hg.trans hg2
      have z2 := G2.size
      obtain ⟨a, rfl, ha1, ha2, -, -⟩ := own_addr o2 hk1
      have hl := (RS.of_own o2).flatLen itCell_len (by omega)
      obtain ⟨x, t, rfl⟩ : ∃ x t, l = x :: t := by
        cases l with
        | nil => simp at hl; omega
        | cons x t => exact ⟨x, t, rfl⟩
      have hga : g < a := by omega
      clear ho hg hc hg2 hk hk2
      cases b
      focus
        obtain ⟨V, hV⟩ : ∃ V, V = w2 := ⟨_, rfl⟩
        obtain ⟨y, hy⟩ : ∃ y, y = x := ⟨_, rfl⟩
        rw [← hV] at o2 G2 hc2 z2 ⊢
        rw [← hy] at o2 hok
        have OV := Lib.hid o2; have GV := G2; have CV := hc2; have KV := hok
        clear o2 G2 hc2 z2 hok hV hy ha2
        go_upto_region 9 with fail
      rotate_left
      focus
        obtain ⟨V, hV⟩ : ∃ V, V = w2 := ⟨_, rfl⟩
        rw [← hV] at o2 G2 hc2 z2 ⊢
        obtain ⟨a', ha', -, -, hcell, hfr⟩ := own_addr o2 hk1
        obtain rfl : a = a' := by injection ha' with h; injection h
        have c0 : V.cell? ⟨a, 0, none⟩ = some (.string x.code) := (hcell 0 (by omega)).trans rfl
        have c1 : V.cell? ⟨a, 1, none⟩ = some (.string x.unit) := (hcell 1 (by omega)).trans rfl
        have c2 : V.cell? ⟨a, 2, none⟩ = some (.int .i64 x.kind) := (hcell 2 (by omega)).trans rfl
        have c3 : V.cell? ⟨a, 3, none⟩ = some (.int .i64 x.lead) := (hcell 3 (by omega)).trans rfl
        have c4 : V.cell? ⟨a, 4, none⟩ = some (.int .i64 x.rule) := (hcell 4 (by omega)).trans rfl
        have c5 : V.cell? ⟨a, 5, none⟩ = some (.int .i64 x.size) := (hcell 5 (by omega)).trans rfl
        have c6 : V.cell? ⟨a, 6, none⟩ = some (.int .i64 x.safety) := (hcell 6 (by omega)).trans rfl
        have c7 : V.cell? ⟨a, 7, none⟩ = some (.int .i64 x.scrap) := (hcell 7 (by omega)).trans rfl
        clear hV hcell hfr ha'
        go_wp2_with fail
        refine (l8Bad_any g x _ hc2 (hok.out x (by simp))).mono ?_; rintro e w3 ⟨y, rfl, hy, hg3, hc3⟩
        have o3 := row_grown o2 hg3 (cur_apart o2 hlt)
        have G3 := G2.trans hg3
        clear c0 c1 c2 c3 c4 c5 c6 c7 o2 G2 hc2 z2 hg3 V
        obtain ⟨V, hV⟩ : ∃ V, V = w3 := ⟨_, rfl⟩
        rw [← hV] at o3 G3 hc3 ⊢
        obtain ⟨a', ha', -, -, hcell, hfr⟩ := own_addr o3 hk1
        obtain rfl : a = a' := by injection ha' with h; injection h
        have c0 : V.cell? ⟨a, 0, none⟩ = some (.string x.code) := (hcell 0 (by omega)).trans rfl
        have c1 : V.cell? ⟨a, 1, none⟩ = some (.string x.unit) := (hcell 1 (by omega)).trans rfl
        have c2 : V.cell? ⟨a, 2, none⟩ = some (.int .i64 x.kind) := (hcell 2 (by omega)).trans rfl
        have c3 : V.cell? ⟨a, 3, none⟩ = some (.int .i64 x.lead) := (hcell 3 (by omega)).trans rfl
        have c4 : V.cell? ⟨a, 4, none⟩ = some (.int .i64 x.rule) := (hcell 4 (by omega)).trans rfl
        have c5 : V.cell? ⟨a, 5, none⟩ = some (.int .i64 x.size) := (hcell 5 (by omega)).trans rfl
        have c6 : V.cell? ⟨a, 6, none⟩ = some (.int .i64 x.safety) := (hcell 6 (by omega)).trans rfl
        have c7 : V.cell? ⟨a, 7, none⟩ = some (.int .i64 x.scrap) := (hcell 7 (by omega)).trans rfl
        clear hV ha' hcell
        have O9 := Lib.hid (own_setIt0 o3 y)
        have G9 := grown_setIt G3 ha1 0 y
        have C9 := cur_setIt hc3 hga 0 y
        have K9 : Hid (∀ u ∈ y :: t, itOk u) := Lib.hid (fun u hu => (List.mem_cons.1 hu).elim (fun h => h ▸ hy) (fun h => hok.out u (by simp [h])))
        clear o3 G3 hc3 hok hy
        go_upto_region 9 with fail
        obtain ⟨V9, hV9⟩ : ∃ V9, V9 = ((((((((V.setCell ⟨a, 0, none⟩ (.string y.code)).setCell ⟨a, 1, none⟩ (.string y.unit)).setCell ⟨a, 2, none⟩ (.int .i64 y.kind)).setCell ⟨a, 3, none⟩ (.int .i64 y.lead)).setCell ⟨a, 4, none⟩ (.int .i64 y.rule)).setCell ⟨a, 5, none⟩ (.int .i64 y.size)).setCell ⟨a, 6, none⟩ (.int .i64 y.safety)).setCell ⟨a, 7, none⟩ (.int .i64 y.scrap)) := ⟨_, rfl⟩
        have OV := Lib.hid (show V9.ownsRow w.heap.size 64 8 (.slice (some ⟨a, 0, none⟩) k c) k ((y :: t).flatMap itCell) by rw [hV9]; exact O9.out)
        have GV : w.grownBy V9 (some g) := by rw [hV9]; exact G9
        have CV : Cur V9 g := by rw [hV9]; exact C9
        have KV := K9
        rw [← hV9]
        clear hV9 O9 G9 C9 K9 c0 c1 c2 c3 c4 c5 c6 c7 hfr ha2
        clear V
        obtain ⟨V, hV⟩ : ∃ V, V = V9 := ⟨_, rfl⟩
        rw [← hV] at OV GV CV ⊢
        clear hV
      rotate_left
      all_goals
        go_wp2_with fail
        refine (l1Once_any g _ _ CV (by omega)).mono ?_; rintro e w4 ⟨b4, rfl, hg4, hc4⟩
        have o4 := row_grown OV.out hg4 (cur_apart OV.out hlt)
        have G4 := GV.trans hg4
        have z4 := G4.size
        clear OV GV CV hg4 V
        cases b4
        · go_wp2_with fail
          go_ret
          exact ⟨_, k, c, y :: t, rfl, o4, hk1, by omega, KV.out, G4, hc4⟩
        by_cases hk3 : k ≤ 1
        · have q1 : ¬ (1 : Int) < 1 + m0 := by omega
          go_wp2_with fail
          go_ret
          exact ⟨_, k, c, y :: t, rfl, o4, hk1, by omega, KV.out, G4, hc4⟩
        have q1 : (1 : Int) < 1 + m0 := by omega
        have q2 : (1 : Int) < k := by omega
        have hl4 := (RS.of_own o4).flatLen itCell_len (by omega)
        obtain ⟨z, t, rfl⟩ : ∃ z t', t = z :: t' := by
          cases t with
          | nil => simp at hl4; omega
          | cons z t => exact ⟨z, t, rfl⟩
        clear hl4
        obtain ⟨a', ha', ha1, ha2, hcell, hfr⟩ := own_addr o4 hk1
        obtain rfl : a = a' := by injection ha' with h; injection h
        obtain ⟨V, hV⟩ : ∃ V, V = w4 := ⟨_, rfl⟩
        rw [← hV] at o4 G4 hc4 hcell hfr ⊢
        have c0 : V.cell? ⟨a, 0, none⟩ = some (.string y.code) := (hcell 0 (by omega)).trans rfl
        have c1 : V.cell? ⟨a, 1, none⟩ = some (.string y.unit) := (hcell 1 (by omega)).trans rfl
        have c2 : V.cell? ⟨a, 2, none⟩ = some (.int .i64 y.kind) := (hcell 2 (by omega)).trans rfl
        have c3 : V.cell? ⟨a, 3, none⟩ = some (.int .i64 y.lead) := (hcell 3 (by omega)).trans rfl
        have c4 : V.cell? ⟨a, 4, none⟩ = some (.int .i64 y.rule) := (hcell 4 (by omega)).trans rfl
        have c5 : V.cell? ⟨a, 5, none⟩ = some (.int .i64 y.size) := (hcell 5 (by omega)).trans rfl
        have c6 : V.cell? ⟨a, 6, none⟩ = some (.int .i64 y.safety) := (hcell 6 (by omega)).trans rfl
        have c7 : V.cell? ⟨a, 7, none⟩ = some (.int .i64 y.scrap) := (hcell 7 (by omega)).trans rfl
        clear hV hcell ha' z4 ha2 w4
        have z4 := G4.size
        have ha2 : a < V.heap.size := (o4.lt a rfl).2
        go_upto_region 11 with fail
        clear c0 c1 c2 c3 c4 c5 c6 c7 hfr
        obtain ⟨w4, hw4⟩ : ∃ w4, w4 = V := ⟨_, rfl⟩
        rw [← hw4] at o4 G4 hc4 z4 ha2 ⊢
        clear hw4 V
        have BX := Lib.hid (blk_new1 w4 (Obj.cells #[.string y.code, .string y.unit, .int .i64 y.kind, .int .i64 y.lead, .int .i64 y.rule, .int .i64 y.size, .int .i64 y.safety, .int .i64 y.scrap] 64))
        have o5 := o4.alloc (Obj.cells #[.string y.code, .string y.unit, .int .i64 y.kind, .int .i64 y.lead, .int .i64 y.rule, .int .i64 y.size, .int .i64 y.safety, .int .i64 y.scrap] 64)
        have G5 := G4.trans (World.grownBy_alloc w4 (Obj.cells #[.string y.code, .string y.unit, .int .i64 y.kind, .int .i64 y.lead, .int .i64 y.rule, .int .i64 y.size, .int .i64 y.safety, .int .i64 y.scrap] 64) (some g))
        have C5 := hc4.below (below_box w4 (Obj.cells #[.string y.code, .string y.unit, .int .i64 y.kind, .int .i64 y.lead, .int .i64 y.rule, .int .i64 y.size, .int .i64 y.safety, .int .i64 y.scrap] 64))
        obtain ⟨bx, hbx⟩ : ∃ bx, bx = w4.heap.size := ⟨_, rfl⟩
        have abx : a < bx := by omega
        rw [← hbx] at BX z4 ⊢
        obtain ⟨V, hV⟩ : ∃ V, V = w4.alloc (Obj.cells #[.string y.code, .string y.unit, .int .i64 y.kind, .int .i64 y.lead, .int .i64 y.rule, .int .i64 y.size, .int .i64 y.safety, .int .i64 y.scrap] 64) := ⟨_, rfl⟩
        rw [← hV] at BX o5 G5 C5 ⊢
        clear hV o4 G4 hc4 hbx ha2 w4
        obtain ⟨a', ha', -, ha2, hcell, hfr⟩ := own_addr o5 hk1
        obtain rfl : a = a' := by injection ha' with h; injection h
        have c0 : V.cell? ⟨a, 0, none⟩ = some (.string y.code) := (hcell 0 (by omega)).trans rfl
        have c1 : V.cell? ⟨a, 1, none⟩ = some (.string y.unit) := (hcell 1 (by omega)).trans rfl
        have c2 : V.cell? ⟨a, 2, none⟩ = some (.int .i64 y.kind) := (hcell 2 (by omega)).trans rfl
        have c3 : V.cell? ⟨a, 3, none⟩ = some (.int .i64 y.lead) := (hcell 3 (by omega)).trans rfl
        have c4 : V.cell? ⟨a, 4, none⟩ = some (.int .i64 y.rule) := (hcell 4 (by omega)).trans rfl
        have c5 : V.cell? ⟨a, 5, none⟩ = some (.int .i64 y.size) := (hcell 5 (by omega)).trans rfl
        have c6 : V.cell? ⟨a, 6, none⟩ = some (.int .i64 y.safety) := (hcell 6 (by omega)).trans rfl
        have c7 : V.cell? ⟨a, 7, none⟩ = some (.int .i64 y.scrap) := (hcell 7 (by omega)).trans rfl
        have d0 : V.cell? ⟨a, 8, none⟩ = some (.string z.code) := (hcell 8 (by omega)).trans rfl
        have d1 : V.cell? ⟨a, 9, none⟩ = some (.string z.unit) := (hcell 9 (by omega)).trans rfl
        have d2 : V.cell? ⟨a, 10, none⟩ = some (.int .i64 z.kind) := (hcell 10 (by omega)).trans rfl
        have d3 : V.cell? ⟨a, 11, none⟩ = some (.int .i64 z.lead) := (hcell 11 (by omega)).trans rfl
        have d4 : V.cell? ⟨a, 12, none⟩ = some (.int .i64 z.rule) := (hcell 12 (by omega)).trans rfl
        have d5 : V.cell? ⟨a, 13, none⟩ = some (.int .i64 z.size) := (hcell 13 (by omega)).trans rfl
        have d6 : V.cell? ⟨a, 14, none⟩ = some (.int .i64 z.safety) := (hcell 14 (by omega)).trans rfl
        have d7 : V.cell? ⟨a, 15, none⟩ = some (.int .i64 z.scrap) := (hcell 15 (by omega)).trans rfl
        clear hcell ha'
        go_upto_region 12 with fail
        have O6 := Lib.hid (own_setIt0 o5 z)
        have G6 := grown_setIt G5 ha1 0 z
        have C6 := cur_setIt C5 hga 0 z
        obtain ⟨U, hU⟩ : ∃ U, U = ((((((((V.setCell ⟨a, 0, none⟩ (.string z.code)).setCell ⟨a, 1, none⟩ (.string z.unit)).setCell ⟨a, 2, none⟩ (.int .i64 z.kind)).setCell ⟨a, 3, none⟩ (.int .i64 z.lead)).setCell ⟨a, 4, none⟩ (.int .i64 z.rule)).setCell ⟨a, 5, none⟩ (.int .i64 z.size)).setCell ⟨a, 6, none⟩ (.int .i64 z.safety)).setCell ⟨a, 7, none⟩ (.int .i64 z.scrap)) := ⟨_, rfl⟩
        have OU : U.ownsRow w.heap.size 64 8 (.slice (some ⟨a, 0, none⟩) k c) k ((z :: z :: t).flatMap itCell) := by rw [hU]; exact O6.out
        have GU : w.grownBy U (some g) := by rw [hU]; exact G6
        have CU : Cur U g := by rw [hU]; exact C6
        have BU := Lib.hid (show U.heap[bx]? = some (Obj.cells #[.string y.code, .string y.unit, .int .i64 y.kind, .int .i64 y.lead, .int .i64 y.rule, .int .i64 y.size, .int .i64 y.safety, .int .i64 y.scrap] 64 (0, 0)) by rw [hU]; exact (setIt_ne V (by omega) 0 z).trans BX.out)
        rw [← hU]
        clear hU O6 G6 C6 BX o5 G5 C5 c0 c1 c2 c3 c4 c5 c6 c7 d0 d1 d2 d3 d4 d5 d6 d7 hfr ha2
        clear V
        obtain ⟨V, hV⟩ : ∃ V, V = U := ⟨_, rfl⟩
        rw [← hV] at OU GU CU BU ⊢
        clear hV U
        obtain ⟨a', ha', -, ha2, hcell, hfr⟩ := own_addr OU hk1
        obtain rfl : a = a' := by injection ha' with h; injection h
        have d0 : V.cell? ⟨a, 8, none⟩ = some (.string z.code) := (hcell 8 (by omega)).trans rfl
        have d1 : V.cell? ⟨a, 9, none⟩ = some (.string z.unit) := (hcell 9 (by omega)).trans rfl
        have d2 : V.cell? ⟨a, 10, none⟩ = some (.int .i64 z.kind) := (hcell 10 (by omega)).trans rfl
        have d3 : V.cell? ⟨a, 11, none⟩ = some (.int .i64 z.lead) := (hcell 11 (by omega)).trans rfl
        have d4 : V.cell? ⟨a, 12, none⟩ = some (.int .i64 z.rule) := (hcell 12 (by omega)).trans rfl
        have d5 : V.cell? ⟨a, 13, none⟩ = some (.int .i64 z.size) := (hcell 13 (by omega)).trans rfl
        have d6 : V.cell? ⟨a, 14, none⟩ = some (.int .i64 z.safety) := (hcell 14 (by omega)).trans rfl
        have d7 : V.cell? ⟨a, 15, none⟩ = some (.int .i64 z.scrap) := (hcell 15 (by omega)).trans rfl
        clear hcell ha'
        have x0 := blk_at BU.out (j := 0) rfl; have x1 := blk_at BU.out (j := 1) rfl; have x2 := blk_at BU.out (j := 2) rfl; have x3 := blk_at BU.out (j := 3) rfl; have x4 := blk_at BU.out (j := 4) rfl; have x5 := blk_at BU.out (j := 5) rfl; have x6 := blk_at BU.out (j := 6) rfl; have x7 := blk_at BU.out (j := 7) rfl
        have O8 := own_setIt1 OU y
        have G8 := grown_setIt GU ha1 8 y
        have C8 := cur_setIt CU hga 8 y
        have K8 : Hid (∀ u ∈ z :: y :: t, itOk u) := Lib.hid (fun u hu => KV.out u (by
          simp only [List.mem_cons] at hu ⊢
          rcases hu with h | h | h
          · exact .inr (.inl h)
          · exact .inl h
          · exact .inr (.inr h)))
        clear OU GU CU KV
        go_wp2_with fail
        go_ret
        exact ⟨_, k, c, z :: y :: t, rfl, O8, hk1, by omega, K8.out, G8, C8⟩
end Go.Proofs.Ytnhkpdaogclfjaa
