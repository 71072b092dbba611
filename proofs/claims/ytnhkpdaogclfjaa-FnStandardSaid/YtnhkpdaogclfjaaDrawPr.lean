/- The walk of the drawing of prices. No condition. -/
import Derived.Test.YtnhkpdaogclfjaaDrawCat
import Derived.Test.YtnhkpdaogclfjaaSNeed
namespace Go.Proofs.Ytnhkpdaogclfjaa
open Go.ChangeShapes Go.WideShapes Go.ChangeAt Go.RowKit

theorem cell_grown {w w' : World} {g : Nat} {p : Addr} {v : Value} (hg : w.grownBy w' (some g)) (h : w.cell? p = some v) (hne : p.block ≠ g) : w'.cell? p = some v :=
  (World.cell?_of_block (w := w) (w' := w') (hg.block p.block (World.block_lt_of_cell? w p h) (by simpa using hne))).trans h
/-- Needs drawn by cursor g. -/
def DrawnNds (g : Nat) (w : World) (e : Ending) (w' : World) : Prop :=
  ∃ (A : Option Addr) (n c : Nat) (l : List Nd), e = .returned (.slice A n c) ∧ w'.ownsRow w.heap.size 55 2 (.slice A n c) n (l.flatMap ndCell) ∧ n ≤ 6 ∧ w.grownBy w' (some g) ∧ Cur w' g
set_option maxRecDepth 100000 in
set_option maxHeartbeats 4000000 in
theorem l34Prices_any (g : Nat) (Ac : Option Addr) (nc cc : Nat) (cat : List It) (w : World) (hc : Cur w g) (hrc : RS w 8 Ac nc (cat.flatMap itCell)) (h0 : 0 < nc) (hnc : nc ≤ 6) (hA : ∀ a, Ac = some a → a.block ≠ g) :
    Calls Try.prog 56 #[.pointer (some ⟨g, 0, none⟩), .slice Ac nc cc] w (DrawnNds g w) := by
  have hlt := hc.lt
  obtain ⟨i0, hi, hz0, hz1, hz2⟩ := info_parts ndInfo
  have O0 := own_empty w w.heap.size 55 2 (Nat.le_refl _)
  have G0 := World.grownBy_alloc w (Obj.cells #[] 55) (some g)
  have C0 := hc.below (below_box w (Obj.cells #[] 55))
  have HRC := Lib.hid hrc
  obtain ⟨gc, off, rfl, -⟩ := hrc.at_ h0
  have hne : gc ≠ g := hA _ rfl
  clear hc hrc hA
  go_enter Try.func56, Try.ntmps56
  go_wp2_with fail
  go_loopw [5, 6] (fun st i wr => ∃ (k : Nat) (A : Option Addr) (n c : Nat) (l : List Nd), k ≤ nc ∧ i = .int .i64 k ∧ st = .slice A n c ∧ n ≤ k ∧ wr.ownsRow w.heap.size 55 2 (.slice A n c) n (l.flatMap ndCell) ∧ w.grownBy wr (some g) ∧ Cur wr g) (fun _ i _ => nc - (intOf i).toNat)
  case atStart => exact ⟨0, _, 0, 0, [], Nat.zero_le _, rfl, rfl, Nat.le_refl _, by simpa using O0, G0, C0⟩
  case round =>
    obtain ⟨k, A, n, c, l, hk, rfl, rfl, hnk, ho, hg, hc⟩ := hrel
    clear O0 G0 C0
    by_cases hk3 : k < nc
    · have k1 : (0 : Int) ≤ k := by omega
      have k2 : (k : Int) < nc := by omega
      go_wp2_with fail
      refine (l1Once_any g _ _ hc (by omega)).mono ?_; rintro e w2 ⟨b, rfl, hg2, hc2⟩
      have o2 := row_grown ho hg2 (cur_apart ho hlt)
      have G2 := hg.trans hg2
      clear ho hg hg2 hc
      cases b
      rotate_left
      · go_wp2_with fail
        go_roundw
        case rel => exact ⟨k + 1, A, n, c, l, by omega, by go_num, rfl, by omega, o2, G2, hc2⟩
        case measure => simp [intOf]; omega
      · have z2 := G2.size
        obtain ⟨gc', off', hAc, y, hy, x0, -⟩ := HRC.out.itAt hk3
        obtain ⟨rfl, rfl⟩ : gc = gc' ∧ off = off' := by injection hAc with h; injection h with h1 h2; exact ⟨h1, h2⟩
        have hgc : gc < w.heap.size := World.block_lt_of_cell? w _ x0
        have x0 := cell_grown G2 x0 hne
        clear hAc hy
        go_upto_region 6 with fail
        refine wp_region_held_drew (S := fun v => v.cell? ⟨gc, off + k * 8, none⟩ = some (.string y.code)) (by kernel_rfl) x0 (fun hHeld => ?_)
        refine wpAnyH_take (i := 0) (oi := ?_) (v := ?_) (by simp only [List.getElem?_toArray, List.getElem?_cons_zero]; rfl) (by kernel_rfl) (by kernel_rfl) (by kernel_rfl) ?_ (Or.inl ⟨by rfl, ?_⟩) hHeld ?_
        rotate_left 1
        focus exact fun _ _ _ h => h
        focus (intro w hSw; (try dsimp only at hSw); go_simp; try with_reducible rfl)
        (try simp only [Act.put, List.setIfInBounds_toArray, List.set_cons_zero, List.set_cons_succ])
        refine wpAnyH_take (i := 1) (oi := ?_) (v := ?_) (by simp only [List.getElem?_toArray, List.getElem?_cons_succ, List.getElem?_cons_zero]; rfl) (by kernel_rfl) (by kernel_rfl) (by kernel_rfl) ?_ (Or.inl ⟨by rfl, ?_⟩) hHeld ?_
        rotate_left 1
        focus exact fun _ _ _ h => h
        focus (intro w hSw; (try dsimp only at hSw); go_simp; try with_reducible rfl)
        (try simp only [Act.put, List.setIfInBounds_toArray, List.set_cons_zero, List.set_cons_succ])
        refine wpAnyH_take (i := 2) (oi := ?_) (v := ?_) (by simp only [List.getElem?_toArray, List.getElem?_cons_succ, List.getElem?_cons_zero]; rfl) (by kernel_rfl) (by kernel_rfl) (by kernel_rfl) ?_ (Or.inl ⟨by rfl, ?_⟩) hHeld ?_
        rotate_left 1
        focus exact fun _ _ _ h => h
        focus (intro w hSw; (try dsimp only at hSw); go_simp; try with_reducible rfl)
        (try simp only [Act.put, List.setIfInBounds_toArray, List.set_cons_zero, List.set_cons_succ])
        refine wpAnyH_take (i := 3) (oi := ?_) (v := ?_) (by simp only [List.getElem?_toArray, List.getElem?_cons_succ, List.getElem?_cons_zero]; rfl) (by kernel_rfl) (by kernel_rfl) (by kernel_rfl) ?_ (Or.inl ⟨by rfl, ?_⟩) hHeld ?_
        rotate_left 1
        focus exact fun _ _ _ h => h
        focus (intro w hSw; (try dsimp only at hSw); go_simp; try with_reducible rfl)
        (try simp only [Act.put, List.setIfInBounds_toArray, List.set_cons_zero, List.set_cons_succ])
        refine wpAnyH_take (i := 4) (oi := ?_) (v := ?_) (by simp only [List.getElem?_toArray, List.getElem?_cons_succ, List.getElem?_cons_zero]; rfl) (by kernel_rfl) (by kernel_rfl) (by kernel_rfl) ?_ (Or.inl ⟨by rfl, ?_⟩) hHeld ?_
        rotate_left 1
        focus exact fun _ _ _ h => h
        focus (intro w hSw; (try dsimp only at hSw); go_simp; try with_reducible rfl)
        (try simp only [Act.put, List.setIfInBounds_toArray, List.set_cons_zero, List.set_cons_succ])
        refine wpAnyH_take (i := 5) (oi := ?_) (v := ?_) (by simp only [List.getElem?_toArray, List.getElem?_cons_succ, List.getElem?_cons_zero]; rfl) (by kernel_rfl) (by kernel_rfl) (by kernel_rfl) ?_ (Or.inl ⟨by rfl, ?_⟩) hHeld ?_
        rotate_left 1
        focus exact fun _ _ _ h => h
        focus (intro w hSw; (try dsimp only at hSw); go_simp; try with_reducible rfl)
        (try simp only [Act.put, List.setIfInBounds_toArray, List.set_cons_zero, List.set_cons_succ])
        refine wpAnyH_take (i := 6) (oi := ?_) (v := ?_) (by simp only [List.getElem?_toArray, List.getElem?_cons_succ, List.getElem?_cons_zero]; rfl) (by kernel_rfl) (by kernel_rfl) (by kernel_rfl) ?_ (Or.inl ⟨by rfl, ?_⟩) hHeld ?_
        rotate_left 1
        focus exact fun _ _ _ h => h
        focus (intro w hSw; (try dsimp only at hSw); go_simp; try with_reducible rfl)
        (try simp only [Act.put, List.setIfInBounds_toArray, List.set_cons_zero, List.set_cons_succ])
        refine wpAnyH_ready (rs := [7]) (by kernel_rfl) (by simp) ?_
        refine AllReadyH.cons (o := ?_) (by simp only [List.getElem?_toArray, List.getElem?_cons_succ, List.getElem?_cons_zero]; rfl) (fun K hK => ?_) AllReadyH.nil
        go_simp
        have CW : Cur w2.drew g := hc2.below ((Below.refl w2.heap.size w2).drew)
        have GW : w.grownBy w2.drew (some g) := grown_below G2 ((Below.refl w2.heap.size w2).drew)
        have oW : w2.drew.ownsRow w.heap.size 55 2 (.slice A n c) n (l.flatMap ndCell) := own_below o2 ((Below.refl w2.heap.size w2).drew)
        (go_at_call 77; refine (l1Below_any g _ _ CW (by omega)).mono ?_; rintro e V ⟨q, rfl, hq0, hq1, -, hgV, hcV⟩)
        go_wp2_with fail
        have o3 := row_grown oW hgV (cur_apart oW hlt)
        have G3 := GW.trans hgV
        have z3 := G3.size
        have xV := cell_grown hgV hHeld hne
        clear oW GW CW hgV
        refine hK.out _ _ (xV) (fun hHeld => ?_)
        clear hK K
        (try simp only [Act.put, List.setIfInBounds_toArray, List.set_cons_zero, List.set_cons_succ])
        refine wpAnyH_take (i := 8) (oi := ?_) (v := ?_) (by simp only [List.getElem?_toArray, List.getElem?_cons_succ, List.getElem?_cons_zero]; rfl) (by kernel_rfl) (by kernel_rfl) (by kernel_rfl) ?_ (Or.inl ⟨by rfl, ?_⟩) hHeld ?_
        rotate_left 1
        focus exact fun _ _ _ h => h
        focus (intro w hSw; (try dsimp only at hSw); go_simp; try with_reducible rfl)
        (try simp only [Act.put, List.setIfInBounds_toArray, List.set_cons_zero, List.set_cons_succ])
        refine wpAnyH_ready (rs := [9]) (by kernel_rfl) (by simp) ?_
        refine AllReadyH.cons (o := ?_) (by simp only [List.getElem?_toArray, List.getElem?_cons_succ, List.getElem?_cons_zero]; rfl) (fun K hK => ?_) AllReadyH.nil
        go_simp
        have OB := o3.alloc (Obj.cells #[.string y.code, .int .i64 q] 55)
        refine hK.out _ _ ((cell_alloc xV _)) (fun hHeld => ?_)
        clear hK K
        (try simp only [Act.put, List.setIfInBounds_toArray, List.set_cons_zero, List.set_cons_succ])
        refine wpAnyH_ready (rs := [10]) (by kernel_rfl) (by simp) ?_
        refine AllReadyH.cons (o := ?_) (by simp only [List.getElem?_toArray, List.getElem?_cons_succ, List.getElem?_cons_zero]; rfl) (fun K hK => ?_) AllReadyH.nil
        (refine step_appB _ (by rfl) _ _ _ (by rfl) w.heap.size 55 i0 _ 2 24 Try.underlying29 hi hz0 hz1 hz2 rfl (by omega) (.slice A n c) n (l.flatMap ndCell) (by rfl) OB _ 1 1 (ndCell ⟨y.code, q⟩) (by rfl) (RS_new (by simp)) (ndCell_one _) (by unfold maxLen; omega) (by omega) (by simp; omega) ?_; intro A6 c6 w6 o6 g6 at6 b6)
        have G6 := grown_own (G3.trans (World.grownBy_alloc V (Obj.cells #[.string y.code, .int .i64 q] 55) (some g))) g6 (fun j hj => (OB.lt j hj).1)
        have C6 := cur_grown (hcV.below (below_box V (Obj.cells #[.string y.code, .int .i64 q] 55))) g6 (fun j hj => by have := (OB.lt j hj).1; omega)
        have o7 : w6.ownsRow w.heap.size 55 2 (.slice A6 (n + 1) c6) (n + 1) ((l ++ [(⟨y.code, q⟩ : Nd)]).flatMap ndCell) := by rw [flat_append, flat_one]; exact o6
        refine hK.out _ _ (((b6.cell hgc).trans (cell_alloc xV _))) (fun hHeld => ?_)
        clear hK K
        (try simp only [Act.put, List.setIfInBounds_toArray, List.set_cons_zero, List.set_cons_succ])
        refine wpAnyH_take (i := 11) (oi := ?_) (v := ?_) (by simp only [List.getElem?_toArray, List.getElem?_cons_succ, List.getElem?_cons_zero]; rfl) (by kernel_rfl) (by kernel_rfl) (by kernel_rfl) ?_ (Or.inl ⟨by rfl, ?_⟩) hHeld ?_
        rotate_left 1
        focus exact fun _ _ _ h => h
        focus (intro w hSw; (try dsimp only at hSw); go_simp; try with_reducible rfl)
        (try simp only [Act.put, List.setIfInBounds_toArray, List.set_cons_zero, List.set_cons_succ])
        refine wpAnyH_done (by kernel_rfl) ?_ _
        clear hHeld o6 g6 at6 b6 OB o3 G3 hcV
        go_wp2_with fail
        go_roundw
        case rel => exact ⟨k + 1, A6, n + 1, c6, _, by omega, by go_num, rfl, by omega, o7, G6, C6⟩
        case measure => simp [intOf]; omega
    · have n6 : n ≤ 6 := by omega
      go_wp2_with fail
      refine (l1Once_any g _ _ hc (by omega)).mono ?_; rintro e w2 ⟨b, rfl, hg2, hc2⟩
      have o2 := row_grown ho hg2 (cur_apart ho hlt)
      have G2 := hg.trans hg2
      have z2 := G2.size
      clear ho hg hc hg2
      cases b
      · go_wp2_with fail
        go_ret
        exact ⟨A, n, c, l, rfl, o2, n6, G2, hc2⟩
      by_cases hn0 : n ≤ 0
      · have q1 : ¬ (0 : Int) < n := by omega
        go_wp2_with fail
        go_ret
        exact ⟨A, n, c, l, rfl, o2, n6, G2, hc2⟩
      have q1 : (0 : Int) < n := by omega
      go_wp2_with fail
      refine (l1Odd_any g _ hc2).mono ?_; rintro e w3 ⟨v, rfl, hv, hg3, hc3⟩
      have o3 := row_grown o2 hg3 (cur_apart o2 hlt)
      have G3 := G2.trans hg3
      obtain ⟨a, rfl, ha1, ha2, hcell, hfr⟩ := own_addr o3 (by omega)
      have hl := (RS.of_own o3).flatLen ndCell_len (by omega)
      obtain ⟨x, t, rfl⟩ : ∃ x t, l = x :: t := by
        cases l with
        | nil => simp at hl; omega
        | cons x t => exact ⟨x, t, rfl⟩
      have c1 : w3.cell? ⟨a, 1, none⟩ = some (.int .i64 x.qty) := (hcell 1 (by omega)).trans rfl
      have O4 : (w3.setCell ⟨a, 1, none⟩ (.int .i64 v)).ownsRow w.heap.size 55 2 (.slice (some ⟨a, 0, none⟩) n c) n (((⟨x.code, v⟩ : Nd) :: t).flatMap ndCell) := (o3.stored 1 (.int .i64 v)).1
      have G4 := grown_setNew' G3 (p := ⟨a, 1, none⟩) ha1 (.int .i64 v)
      have C4 := cur_setNew' hc3 (p := ⟨a, 1, none⟩) (show g < a by omega) (.int .i64 v)
      clear o2 G2 hc2 hg3 o3 G3 hc3 hcell hl
      go_wp2_with fail
      go_ret
      exact ⟨_, n, c, _, rfl, O4, n6, G4, C4⟩
end Go.Proofs.Ytnhkpdaogclfjaa
