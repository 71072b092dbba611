/- The walk of the drawing of bills. No condition. -/
import Derived.Test.YtnhkpdaogclfjaaDrawPr
import Derived.Test.YtnhkpdaogclfjaaForce
namespace Go.Proofs.Ytnhkpdaogclfjaa
open Go.ChangeShapes Go.WideShapes Go.ChangeAt Go.RowKit

section
variable {w w' w0 : World} {lo n c g bx : Nat} {A : Option Addr} {ds : List Bl}
theorem LinesO.grown (h : LinesO w lo A n c ds) (hg : w.grownBy w' (some g)) (hlt : g < lo) : LinesO w' lo A n c ds := by
  obtain ⟨vs, h1, h2, h3⟩ := h
  exact ⟨vs, row_grown h1 hg (cur_apart h1 hlt), h2, fun i x d hx hd => let ⟨a, b⟩ := h3 i x d hx hd; ⟨a, row_grown b hg (cur_apart b hlt)⟩⟩
theorem LinesO.top (h : LinesO w lo A n c ds) : ∀ k, (Value.slice A n c).ownBlock = some k → k < w.heap.size := by
  obtain ⟨vs, h1, _⟩ := h
  exact fun k hk => (h1.lt k hk).2
/-- A row of another type than a block's lies apart from it. -/
theorem own_setOther {base size m : Nat} {e t : TypeId} {v : Value} {xs : List Value} {cs : Array Value} (h : w.ownsRow base e size v m xs) (hb : w.heap[bx]? = some (.cells cs t (0, 0))) (hne : e ≠ t) (j : Nat) (u : Value) :
    (w.setCell ⟨bx, j, none⟩ u).ownsRow base e size v m xs :=
  own_grown h (grown_set w ⟨bx, j, none⟩ u) (by
    rcases h.2 with ⟨hv, _⟩ | ⟨k, cap, cur, hv, _, hk, _⟩
    · exact .inl (by rw [hv]; rfl)
    · refine .inr fun he => ?_
      rw [hv] at he
      have : k = bx := by injection he
      subst this
      rw [hb] at hk
      injection hk with hk
      injection hk with _ ht _
      exact hne ht.symm)
theorem LinesO.setBox {cs : Array Value} (h : LinesO w lo A n c ds) (hb : w.heap[bx]? = some (.cells cs 82 (0, 0))) (ap : ∀ k, (Value.slice A n c).ownBlock = some k → k < bx) (j : Nat) (u : Value) : LinesO (w.setCell ⟨bx, j, none⟩ u) lo A n c ds := by
  obtain ⟨vs, h1, h2, h3⟩ := h
  refine ⟨vs, own_grown h1 (grown_set w ⟨bx, j, none⟩ u) ?_, h2, fun i x d hx hd => let ⟨a, b⟩ := h3 i x d hx hd; ⟨a, own_setOther b hb (by decide) j u⟩⟩
  cases hv : (Value.slice A n c).ownBlock with
  | none => exact .inl rfl
  | some k =>
    refine .inr fun he => ?_
    have := ap k hv
    injection he with he
    simp only at he
    omega
/-- The first line's quantity turned. -/
theorem LinesO.qty {a : Nat} {d : Bl} {t : List Bl} (h : LinesO w lo (some ⟨a, 0, none⟩) n c (d :: t)) (v : Int) :
    LinesO (w.setCell ⟨a, 2, none⟩ (.int .i64 v)) lo (some ⟨a, 0, none⟩) n c ({ d with qty := v } :: t) := by
  obtain ⟨vs, h1, h2, h3⟩ := h
  cases vs with
  | nil => simp at h2
  | cons x vs =>
    refine ⟨{ x with qty := v } :: vs, (h1.stored 2 (.int .i64 v)).1, by simpa using h2, fun i y e hy he => ?_⟩
    have key : ∀ (m : Nat) (u : Value) (ys : List Value), w.ownsRow lo 126 3 u m ys → (w.setCell ⟨a, 2, none⟩ (.int .i64 v)).ownsRow lo 126 3 u m ys := fun m u ys o => own_grown o (grown_set w ⟨a, 2, none⟩ _) (own_types o h1 (by decide))
    cases i with
    | zero =>
      simp at hy he
      subst hy he
      obtain ⟨⟨a0, a1, a2, a3, a4⟩, b⟩ := h3 0 x d rfl rfl
      exact ⟨⟨a0, a1, rfl, a3, a4⟩, key _ _ _ b⟩
    | succ i =>
      obtain ⟨p, q⟩ := h3 (i + 1) y e (by simpa using hy) (by simpa using he)
      exact ⟨p, key _ _ _ q⟩
end
/-- A line in the making: the box, the lines there are, the cursor. -/
structure LnW (w : World) (lo g bx : Nat) (A : Option Addr) (n c : Nat) (ds : List Bl) (x : BV) (w' : World) : Prop where
  lines : LinesO w' lo A n c ds
  ap : ∀ k, (Value.slice A n c).ownBlock = some k → k < bx
  box : w'.heap[bx]? = some (.cells #[Value.string x.par, .string x.part, .int .i64 x.qty, .int .i64 x.fr, .int .i64 x.un, .slice x.eA x.en x.ec] 82 (0, 0))
  gr : w.grownBy w' (some g)
  cur : Cur w' g
  glo : g < lo
  lob : lo ≤ bx
  wlo : w.heap.size ≤ lo
namespace LnW
variable {w w1 w2 : World} {lo g bx n c : Nat} {A : Option Addr} {ds : List Bl} {x y : BV}
theorem make (h : LinesO w1 lo A n c ds) (hg : w.grownBy w1 (some g)) (hc : Cur w1 g) (h1 : g < lo) (h2 : lo ≤ w1.heap.size) (h3 : w.heap.size ≤ lo) :
    LnW w lo g w1.heap.size A n c ds ⟨⟨#[]⟩, ⟨#[]⟩, 0, 0, 0, none, 0, 0⟩ (w1.alloc (Obj.cells #[Value.string ⟨#[]⟩, .string ⟨#[]⟩, .int .i64 0, .int .i64 0, .int .i64 0, .slice none 0 0] 82)) :=
  ⟨h.below (below_box _ _), h.top, blk_new1 _ _, hg.trans (World.grownBy_alloc w1 _ (some g)), hc.below (below_box _ _), h1, h2, h3⟩
theorem call (h : LnW w lo g bx A n c ds x w1) (hg : w1.grownBy w2 (some g)) (hc : Cur w2 g) : LnW w lo g bx A n c ds x w2 :=
  ⟨h.lines.grown hg h.glo, h.ap, blk_grown hg h.box (by have := h.glo; have := h.lob; omega), h.gr.trans hg, hc, h.glo, h.lob, h.wlo⟩
theorem below (h : LnW w lo g bx A n c ds x w1) (hb : Below w1.heap.size w1 w2) : LnW w lo g bx A n c ds x w2 :=
  ⟨h.lines.below hb, h.ap, blk_keep hb h.box, grown_below h.gr hb, h.cur.below hb, h.glo, h.lob, h.wlo⟩
theorem put (h : LnW w lo g bx A n c ds x w1) (y : BV) (j : Nat) (v : Value) (hs : (#[Value.string x.par, .string x.part, .int .i64 x.qty, .int .i64 x.fr, .int .i64 x.un, .slice x.eA x.en x.ec] : Array Value).setIfInBounds j v = #[Value.string y.par, .string y.part, .int .i64 y.qty, .int .i64 y.fr, .int .i64 y.un, .slice y.eA y.en y.ec]) : LnW w lo g bx A n c ds y (w1.setCell ⟨bx, j, none⟩ v) :=
  ⟨h.lines.setBox h.box h.ap j v, h.ap, by have k := heap_setCell_same w1 bx j _ _ v h.box; rw [hs] at k; exact k,
    grown_setNew' h.gr (by have := h.wlo; have := h.lob; simp only; omega) v, cur_setNew' h.cur (by have := h.glo; have := h.lob; simp only; omega) v, h.glo, h.lob, h.wlo⟩
theorem fr (h : LnW w lo g bx A n c ds x w1) (v : Int) : LnW w lo g bx A n c ds { x with fr := v } (w1.setCell ⟨bx, 3, none⟩ (.int .i64 v)) := h.put _ 3 _ rfl
theorem un (h : LnW w lo g bx A n c ds x w1) (v : Int) : LnW w lo g bx A n c ds { x with un := v } (w1.setCell ⟨bx, 4, none⟩ (.int .i64 v)) := h.put _ 4 _ rfl
theorem all6 (h : LnW w lo g bx A n c ds x w1) (y : BV) : LnW w lo g bx A n c ds y ((((((w1.setCell ⟨bx, 0, none⟩ (.string y.par)).setCell ⟨bx, 1, none⟩ (.string y.part)).setCell ⟨bx, 2, none⟩ (.int .i64 y.qty)).setCell ⟨bx, 3, none⟩ (.int .i64 y.fr)).setCell ⟨bx, 4, none⟩ (.int .i64 y.un)).setCell ⟨bx, 5, none⟩ (.slice y.eA y.en y.ec)) :=
  (((((h.put ⟨y.par, x.part, x.qty, x.fr, x.un, x.eA, x.en, x.ec⟩ 0 _ rfl).put ⟨y.par, y.part, x.qty, x.fr, x.un, x.eA, x.en, x.ec⟩ 1 _ rfl).put ⟨y.par, y.part, y.qty, x.fr, x.un, x.eA, x.en, x.ec⟩ 2 _ rfl).put ⟨y.par, y.part, y.qty, y.fr, x.un, x.eA, x.en, x.ec⟩ 3 _ rfl).put ⟨y.par, y.part, y.qty, y.fr, y.un, x.eA, x.en, x.ec⟩ 4 _ rfl).put y 5 _ rfl
/-- Nodes elsewhere stay. -/
theorem nodes1 (h : LnW w lo g bx A n c ds x w1) {base m : Nat} {v : Value} {xs : List Value} (o : w1.ownsRow base 126 3 v m xs) (j : Nat) (u : Value) : (w1.setCell ⟨bx, j, none⟩ u).ownsRow base 126 3 v m xs :=
  own_setOther o h.box (by decide) j u
theorem nodes6 (h : LnW w lo g bx A n c ds x w1) (y : BV) {base m : Nat} {v : Value} {xs : List Value} (o : w1.ownsRow base 126 3 v m xs) :
    ((((((w1.setCell ⟨bx, 0, none⟩ (.string y.par)).setCell ⟨bx, 1, none⟩ (.string y.part)).setCell ⟨bx, 2, none⟩ (.int .i64 y.qty)).setCell ⟨bx, 3, none⟩ (.int .i64 y.fr)).setCell ⟨bx, 4, none⟩ (.int .i64 y.un)).setCell ⟨bx, 5, none⟩ (.slice y.eA y.en y.ec)).ownsRow base 126 3 v m xs :=
  have h1 := h.put ⟨y.par, x.part, x.qty, x.fr, x.un, x.eA, x.en, x.ec⟩ 0 _ rfl
  have h2 := h1.put ⟨y.par, y.part, x.qty, x.fr, x.un, x.eA, x.en, x.ec⟩ 1 _ rfl
  have h3 := h2.put ⟨y.par, y.part, y.qty, x.fr, x.un, x.eA, x.en, x.ec⟩ 2 _ rfl
  have h4 := h3.put ⟨y.par, y.part, y.qty, y.fr, x.un, x.eA, x.en, x.ec⟩ 3 _ rfl
  have h5 := h4.put ⟨y.par, y.part, y.qty, y.fr, y.un, x.eA, x.en, x.ec⟩ 4 _ rfl
  h5.nodes1 (h4.nodes1 (h3.nodes1 (h2.nodes1 (h1.nodes1 (h.nodes1 o _ _) _ _) _ _) _ _) _ _) _ _
theorem at_ (h : LnW w lo g bx A n c ds x w1) (j : Nat) (v : Value) (hj : (#[Value.string x.par, .string x.part, .int .i64 x.qty, .int .i64 x.fr, .int .i64 x.un, .slice x.eA x.en x.ec] : Array Value)[j]? = some v) : w1.cell? ⟨bx, j, none⟩ = some v := blk_at h.box hj
theorem free (h : LnW w lo g bx A n c ds x w1) (j : Nat) : w1.frozen? ⟨bx, j, none⟩ = false := blk_free h.box j
theorem two (h : LnW w lo g bx A n c ds x w1) {p q : Addr} {u v : Value} (hp : w1.cell? p = some u ∧ w1.cell? q = some v) (hpb : p.block < lo) (hqb : q.block < lo) (j : Nat) (t : Value) : (w1.setCell ⟨bx, j, none⟩ t).cell? p = some u ∧ (w1.setCell ⟨bx, j, none⟩ t).cell? q = some v := by
  have := h.lob
  exact ⟨(World.cell?_setCell_other _ _ _ _ (fun e => by rw [← e] at hpb; simp only at hpb; omega)).trans hp.1, (World.cell?_setCell_other _ _ _ _ (fun e => by rw [← e] at hqb; simp only at hqb; omega)).trans hp.2⟩
theorem two6 (h : LnW w lo g bx A n c ds x w1) {p q : Addr} {u v : Value} (hp : w1.cell? p = some u ∧ w1.cell? q = some v) (hpb : p.block < lo) (hqb : q.block < lo) (v0 v1 v2 v3 v4 v5 : Value) :
    ((((((w1.setCell ⟨bx, 0, none⟩ v0).setCell ⟨bx, 1, none⟩ v1).setCell ⟨bx, 2, none⟩ v2).setCell ⟨bx, 3, none⟩ v3).setCell ⟨bx, 4, none⟩ v4).setCell ⟨bx, 5, none⟩ v5).cell? p = some u ∧ ((((((w1.setCell ⟨bx, 0, none⟩ v0).setCell ⟨bx, 1, none⟩ v1).setCell ⟨bx, 2, none⟩ v2).setCell ⟨bx, 3, none⟩ v3).setCell ⟨bx, 4, none⟩ v4).setCell ⟨bx, 5, none⟩ v5).cell? q = some v := by
  have hb := h.lob
  have e : ∀ (V : World) (r : Addr) (t : Value) (j : Nat) (s : Value), r.block < lo → V.cell? r = some t → (V.setCell ⟨bx, j, none⟩ s).cell? r = some t := fun V r t j s hr ht =>
    (World.cell?_setCell_other _ _ _ _ (fun e => by rw [← e] at hr; simp only at hr; omega)).trans ht
  exact ⟨e _ _ _ _ _ hpb (e _ _ _ _ _ hpb (e _ _ _ _ _ hpb (e _ _ _ _ _ hpb (e _ _ _ _ _ hpb (e _ _ _ _ _ hpb hp.1))))), e _ _ _ _ _ hqb (e _ _ _ _ _ hqb (e _ _ _ _ _ hqb (e _ _ _ _ _ hqb (e _ _ _ _ _ hqb (e _ _ _ _ _ hqb hp.2)))))⟩
end LnW
/-- Lines drawn by cursor g. -/
def DrawnBls (g : Nat) (w : World) (e : Ending) (w' : World) : Prop :=
  ∃ (A : Option Addr) (n c : Nat) (l : List Bl), e = .returned (.slice A n c) ∧ LinesO w' w.heap.size A n c l ∧ n ≤ 9 ∧ (∀ x ∈ l, billOk x) ∧ w.grownBy w' (some g) ∧ Cur w' g
set_option maxRecDepth 100000 in
set_option maxHeartbeats 4000000 in
theorem l9Bills_any (g : Nat) (Ac : Option Addr) (nc cc : Nat) (cat : List It) (w : World) (hc : Cur w g) (hrc : RS w 8 Ac nc (cat.flatMap itCell)) (h0 : 0 < nc) (hnc : nc ≤ 6) (hA : ∀ a, Ac = some a → a.block ≠ g) (hokc : ∀ x ∈ cat, itOk x) :
    Calls Try.prog 74 #[.pointer (some ⟨g, 0, none⟩), .slice Ac nc cc] w (DrawnBls g w) := by
  have hlt := hc.lt
  obtain ⟨i0, hi, hz0, hz1, hz2⟩ := info_parts blInfo
  have HRC := Lib.hid hrc
  have OKC := Lib.hid hokc
  obtain ⟨gc, off, rfl, -⟩ := hrc.at_ h0
  have hne : gc ≠ g := hA _ rfl
  have hgc : gc < w.heap.size := by
    obtain ⟨gc', off', hAc, y, hy, x0, -⟩ := hrc.itAt h0
    obtain ⟨rfl, rfl⟩ : gc = gc' ∧ off = off' := by injection hAc with h; injection h with h1 h2; exact ⟨h1, h2⟩
    exact World.block_lt_of_cell? w _ x0
  clear hrc hokc hA
  have L0 : LinesO (w.alloc (Obj.cells #[] 82)) w.heap.size (some ⟨w.heap.size, 0, none⟩) 0 0 [] := ⟨[], own_empty w w.heap.size 82 6 (Nat.le_refl _), rfl, by simp⟩
  have G0 := World.grownBy_alloc w (Obj.cells #[] 82) (some g)
  have C0 := hc.below (below_box w (Obj.cells #[] 82))
  clear hc
  go_enter Try.func74, Try.ntmps74
  go_wp2_with fail
  refine (l1Below_any g _ _ C0 (by omega)).mono ?_; rintro e w1 ⟨m0, rfl, hm0, -, hm1, hg1, hc1⟩
  have hm2 := hm1 (by omega)
  have L1 := L0.grown hg1 hlt
  have G1 := G0.trans hg1
  clear hg1 hm1 L0 G0 C0
  go_wp2_with fail
  go_loopw [5, 6] (fun v i wr => ∃ (m : Int) (A : Option Addr) (n c : Nat) (l : List Bl), 0 ≤ m ∧ n + m ≤ 8 ∧ i = .int .i64 m ∧ v = .slice A n c ∧ LinesO wr w.heap.size A n c l ∧ Hid (∀ x ∈ l, billOk x) ∧ w.grownBy wr (some g) ∧ Cur wr g) (fun _ i _ => (intOf i).toNat)
  case atStart => exact ⟨m0, _, 0, 0, [], hm0, by omega, rfl, rfl, L1, by simp [Hid], G1, hc1⟩
  case round =>
    obtain ⟨m, A, n, c, l, hm, hnm, rfl, rfl, hL, hok, hg, hc⟩ := hrel
    clear L1 G1 hc1
    have hz := hg.size
    by_cases hb : 0 < m ∧ 1 < nc
    · obtain ⟨hb1, hb2⟩ := hb
      have hb2' : (1 : Int) < nc := by omega
      go_wp2_with fail
      refine (l1Below_any g _ _ hc (by omega)).mono ?_; rintro e w2 ⟨a, rfl, ha0, -, ha1, hg2, hc2⟩
      have ha2 := ha1 (by omega)
      have L2 := hL.grown hg2 hlt
      have G2 := hg.trans hg2
      obtain ⟨a, rfl⟩ := Int.eq_ofNat_of_zero_le ha0
      clear hL hg hc hg2 ha1 ha0
      go_wp2_with fail
      refine (l1Below_any g _ _ hc2 (by omega)).mono ?_; rintro e w3 ⟨b, rfl, hb0, -, hb3, hg3, hc3⟩
      have hb4 := hb3 (by omega)
      have L3 := L2.grown hg3 hlt
      have G3 := G2.trans hg3
      clear L2 G2 hc2 hg3 hb3
      obtain ⟨q, hq⟩ := Int.eq_ofNat_of_zero_le (show 0 ≤ (a : Int) + 1 + b by omega)
      obtain ⟨gc', off', hAc, y, hy, x0, -, x2, -⟩ := HRC.out.itAt (show a < nc by omega)
      obtain ⟨rfl, rfl⟩ : gc = gc' ∧ off = off' := by injection hAc with h; injection h with h1 h2; exact ⟨h1, h2⟩
      obtain ⟨gc', off', hAc', z, hz', p0, -⟩ := HRC.out.itAt (show q < nc by omega)
      obtain ⟨rfl, rfl⟩ : gc = gc' ∧ off = off' := by injection hAc' with h; injection h with h1 h2; exact ⟨h1, h2⟩
      clear hAc hAc'
      have OY := Lib.hid (OKC.out y (List.mem_of_getElem? hy)); have OZ := Lib.hid (OKC.out z (List.mem_of_getElem? hz'))
      have x0 := cell_grown G3 x0 hne; have x2 := cell_grown G3 x2 hne; have p0 := cell_grown G3 p0 hne
      clear hy hz'
      have a0 : (0 : Int) ≤ a := by omega
      have a1 : (a : Int) < nc := by omega
      have q0 : (0 : Int) ≤ q := by omega
      have q1 : (q : Int) < nc := by omega
      go_upto_region 7 with fail
      clear hq hb0 hb4
      by_cases hk : y.kind = 0
      · have bk : (y.kind == 0) = true := by simpa using hk
        go_wp2_with fail
        go_roundw
        case rel => exact ⟨m - 1, A, n, c, l, by omega, by omega, by go_num, rfl, L3, hok, G3, hc3⟩
        case measure => simp [intOf]; omega
      have bk : (y.kind == 0) = false := by simpa using hk
      go_upto_region 8 with fail
      refine wp_region_held_drew (S := fun v => v.cell? ⟨gc, off + a * 8, none⟩ = some (.string y.code) ∧ v.cell? ⟨gc, off + q * 8, none⟩ = some (.string z.code)) (by kernel_rfl) ⟨x0, p0⟩ (fun hHeld => ?_)
      have BD : Below w3.heap.size w3 w3.drew := (Below.refl w3.heap.size w3).drew
      obtain ⟨W, hW⟩ : ∃ W, W = w3.drew := ⟨_, rfl⟩
      rw [← hW] at hHeld BD ⊢
      have L4 := L3.below BD
      have G4 := grown_below G3 BD
      have C4 := hc3.below BD
      have Z4 := G4.size
      clear x0 x2 p0 L3 G3 hc3 BD hW
      refine wpAnyH_take (i := 0) (oi := ?_) (v := ?_) (by simp only [List.getElem?_toArray, List.getElem?_cons_zero]; rfl) (by kernel_rfl) (by kernel_rfl) (by kernel_rfl) ?_ (Or.inl ⟨by rfl, ?_⟩) hHeld ?_
      rotate_left 1
      focus exact fun _ _ _ h => h
      focus (intro w hSw; (try dsimp only at hSw); go_simp; try with_reducible rfl)
      (try simp only [Act.put, List.setIfInBounds_toArray, List.set_cons_zero, List.set_cons_succ])
      refine wpAnyH_take (i := 1) (oi := ?_) (v := ?_) (by simp only [List.getElem?_toArray, List.getElem?_cons_succ, List.getElem?_cons_zero]; rfl) (by kernel_rfl) (by kernel_rfl) (by kernel_rfl) ?_ (Or.inl ⟨by rfl, ?_⟩) hHeld ?_
      rotate_left 1
      focus exact fun _ _ _ h => h
      focus (intro w hSw; (try dsimp only at hSw); go_simp; try with_reducible rfl)
      (try simp only [Act.put, List.setIfInBounds_toArray, List.set_cons_zero, List.set_cons_succ])
      refine wpAnyH_take (i := 2) (oi := ?_) (v := ?_) (by simp only [List.getElem?_toArray, List.getElem?_cons_succ, List.getElem?_cons_zero]; rfl) (by kernel_rfl) (by kernel_rfl) (by kernel_rfl) ?_ (Or.inl ⟨by rfl, ?_⟩) hHeld ?_
      rotate_left 1
      focus exact fun _ _ _ h => h
      focus (intro w hSw; (try dsimp only at hSw); go_simp; try with_reducible rfl)
      (try simp only [Act.put, List.setIfInBounds_toArray, List.set_cons_zero, List.set_cons_succ])
      refine wpAnyH_take (i := 3) (oi := ?_) (v := ?_) (by simp only [List.getElem?_toArray, List.getElem?_cons_succ, List.getElem?_cons_zero]; rfl) (by kernel_rfl) (by kernel_rfl) (by kernel_rfl) ?_ (Or.inl ⟨by rfl, ?_⟩) hHeld ?_
      rotate_left 1
      focus exact fun _ _ _ h => h
      focus (intro w hSw; (try dsimp only at hSw); go_simp; try with_reducible rfl)
      (try simp only [Act.put, List.setIfInBounds_toArray, List.set_cons_zero, List.set_cons_succ])
      refine wpAnyH_take (i := 4) (oi := ?_) (v := ?_) (by simp only [List.getElem?_toArray, List.getElem?_cons_succ, List.getElem?_cons_zero]; rfl) (by kernel_rfl) (by kernel_rfl) (by kernel_rfl) ?_ (Or.inl ⟨by rfl, ?_⟩) hHeld ?_
      rotate_left 1
      focus exact fun _ _ _ h => h
      focus (intro w hSw; (try dsimp only at hSw); go_simp; try with_reducible rfl)
      (try simp only [Act.put, List.setIfInBounds_toArray, List.set_cons_zero, List.set_cons_succ])
      refine wpAnyH_take (i := 5) (oi := ?_) (v := ?_) (by simp only [List.getElem?_toArray, List.getElem?_cons_succ, List.getElem?_cons_zero]; rfl) (by kernel_rfl) (by kernel_rfl) (by kernel_rfl) ?_ (Or.inl ⟨by rfl, ?_⟩) hHeld ?_
      rotate_left 1
      focus exact fun _ _ _ h => h
      focus (intro w hSw; (try dsimp only at hSw); go_simp; try with_reducible rfl)
      (try simp only [Act.put, List.setIfInBounds_toArray, List.set_cons_zero, List.set_cons_succ])
      refine wpAnyH_take (i := 6) (oi := ?_) (v := ?_) (by simp only [List.getElem?_toArray, List.getElem?_cons_succ, List.getElem?_cons_zero]; rfl) (by kernel_rfl) (by kernel_rfl) (by kernel_rfl) ?_ (Or.inl ⟨by rfl, ?_⟩) hHeld ?_
      rotate_left 1
      focus exact fun _ _ _ h => h
      focus (intro w hSw; (try dsimp only at hSw); go_simp; try with_reducible rfl)
      (try simp only [Act.put, List.setIfInBounds_toArray, List.set_cons_zero, List.set_cons_succ])
      refine wpAnyH_take (i := 7) (oi := ?_) (v := ?_) (by simp only [List.getElem?_toArray, List.getElem?_cons_succ, List.getElem?_cons_zero]; rfl) (by kernel_rfl) (by kernel_rfl) (by kernel_rfl) ?_ (Or.inl ⟨by rfl, ?_⟩) hHeld ?_
      rotate_left 1
      focus exact fun _ _ _ h => h
      focus (intro w hSw; (try dsimp only at hSw); go_simp; try with_reducible rfl)
      (try simp only [Act.put, List.setIfInBounds_toArray, List.set_cons_zero, List.set_cons_succ])
      refine wpAnyH_take (i := 8) (oi := ?_) (v := ?_) (by simp only [List.getElem?_toArray, List.getElem?_cons_succ, List.getElem?_cons_zero]; rfl) (by kernel_rfl) (by kernel_rfl) (by kernel_rfl) ?_ (Or.inl ⟨by rfl, ?_⟩) hHeld ?_
      rotate_left 1
      focus exact fun _ _ _ h => h
      focus (intro w hSw; (try dsimp only at hSw); go_simp; try with_reducible rfl)
      (try simp only [Act.put, List.setIfInBounds_toArray, List.set_cons_zero, List.set_cons_succ])
      refine wpAnyH_take (i := 9) (oi := ?_) (v := ?_) (by simp only [List.getElem?_toArray, List.getElem?_cons_succ, List.getElem?_cons_zero]; rfl) (by kernel_rfl) (by kernel_rfl) (by kernel_rfl) ?_ (Or.inl ⟨by rfl, ?_⟩) hHeld ?_
      rotate_left 1
      focus exact fun _ _ _ h => h
      focus (intro w hSw; (try dsimp only at hSw); go_simp; try with_reducible rfl)
      (try simp only [Act.put, List.setIfInBounds_toArray, List.set_cons_zero, List.set_cons_succ])
      refine wpAnyH_take (i := 10) (oi := ?_) (v := ?_) (by simp only [List.getElem?_toArray, List.getElem?_cons_succ, List.getElem?_cons_zero]; rfl) (by kernel_rfl) (by kernel_rfl) (by kernel_rfl) ?_ (Or.inl ⟨by rfl, ?_⟩) hHeld ?_
      rotate_left 1
      focus exact fun _ _ _ h => h
      focus (intro w hSw; (try dsimp only at hSw); go_simp; try with_reducible rfl)
      (try simp only [Act.put, List.setIfInBounds_toArray, List.set_cons_zero, List.set_cons_succ])
      refine wpAnyH_take (i := 13) (oi := ?_) (v := ?_) (by simp only [List.getElem?_toArray, List.getElem?_cons_succ, List.getElem?_cons_zero]; rfl) (by kernel_rfl) (by kernel_rfl) (by kernel_rfl) ?_ (Or.inl ⟨by rfl, ?_⟩) hHeld ?_
      rotate_left 1
      focus exact fun _ _ _ h => h
      focus (intro w hSw; (try dsimp only at hSw); go_simp; try with_reducible rfl)
      (try simp only [Act.put, List.setIfInBounds_toArray, List.set_cons_zero, List.set_cons_succ])
      refine wpAnyH_ready (rs := [11, 16]) (by kernel_rfl) (by simp) ?_
      refine AllReadyH.cons (o := ?_) (by simp only [List.getElem?_toArray, List.getElem?_cons_succ, List.getElem?_cons_zero]; rfl) (fun K hK => ?_) (AllReadyH.cons (o := ?_) (by simp only [List.getElem?_toArray, List.getElem?_cons_succ, List.getElem?_cons_zero]; rfl) (fun K hK => ?_) AllReadyH.nil)
      focus
        go_simp
        (go_at_call 77; refine (l1Below_any g _ _ C4 (by omega)).mono ?_; rintro e V1 ⟨qy, rfl, qy0, -, qy1, hg5, C5⟩)
        have qy5 := qy1 (by omega)
        have wq : IntKind.i64.wrap (1 + qy) = 1 + qy := IntWalk.i64_in _ (by omega)
        go_wp2_with fail
        have L5 := L4.grown hg5 hlt
        have G5 := G4.trans hg5
        have S5 : V1.cell? ⟨gc, off + a * 8, none⟩ = some (.string y.code) ∧ V1.cell? ⟨gc, off + q * 8, none⟩ = some (.string z.code) := ⟨cell_grown hg5 hHeld.1 hne, cell_grown hg5 hHeld.2 hne⟩
        clear L4 G4 C4 hg5
        refine hK.out _ _ (S5) (fun hHeld => ?_)
        clear hK K
        (try simp only [Act.put, List.setIfInBounds_toArray, List.set_cons_zero, List.set_cons_succ])
        refine wpAnyH_take (i := 12) (oi := ?_) (v := ?_) (by simp only [List.getElem?_toArray, List.getElem?_cons_succ, List.getElem?_cons_zero]; rfl) (by kernel_rfl) (by kernel_rfl) (by kernel_rfl) ?_ (Or.inl ⟨by rfl, ?_⟩) hHeld ?_
        rotate_left 1
        focus exact fun _ _ _ h => h
        focus (intro w hSw; (try dsimp only at hSw); go_simp; try with_reducible rfl)
        (try simp only [Act.put, List.setIfInBounds_toArray, List.set_cons_zero, List.set_cons_succ])
        refine wpAnyH_ready (rs := [14, 16]) (by kernel_rfl) (by simp) ?_
        refine AllReadyH.cons (o := ?_) (by simp only [List.getElem?_toArray, List.getElem?_cons_succ, List.getElem?_cons_zero]; rfl) (fun K hK => ?_) (AllReadyH.cons (o := ?_) (by simp only [List.getElem?_toArray, List.getElem?_cons_succ, List.getElem?_cons_zero]; rfl) (fun K hK => ?_) AllReadyH.nil)
        focus
          go_simp
          (go_at_call 91; refine (l9When_any g _ C5).mono ?_; rintro e V2 ⟨eA, en, ec, cn, rfl, oc, hen, hcn, hg6, C6⟩)
          go_wp2_with fail
          have oc6 := own_base oc G5.size
          have L6 := L5.grown hg6 hlt
          have G6 := G5.trans hg6
          have S6 : V2.cell? ⟨gc, off + a * 8, none⟩ = some (.string y.code) ∧ V2.cell? ⟨gc, off + q * 8, none⟩ = some (.string z.code) := ⟨cell_grown hg6 S5.1 hne, cell_grown hg6 S5.2 hne⟩
          clear L5 G5 C5 hg6
          refine hK.out _ _ (S6) (fun hHeld => ?_)
          clear hK K
          (try simp only [Act.put, List.setIfInBounds_toArray, List.set_cons_zero, List.set_cons_succ])
          refine wpAnyH_take (i := 15) (oi := ?_) (v := ?_) (by simp only [List.getElem?_toArray, List.getElem?_cons_succ, List.getElem?_cons_zero]; rfl) (by kernel_rfl) (by kernel_rfl) (by kernel_rfl) ?_ (Or.inl ⟨by rfl, ?_⟩) hHeld ?_
          rotate_left 1
          focus exact fun _ _ _ h => h
          focus (intro w hSw; (try dsimp only at hSw); go_simp; try with_reducible rfl)
          (try simp only [Act.put, List.setIfInBounds_toArray, List.set_cons_zero, List.set_cons_succ])
          refine wpAnyH_ready (rs := [16]) (by kernel_rfl) (by simp) ?_
          refine AllReadyH.cons (o := ?_) (by simp only [List.getElem?_toArray, List.getElem?_cons_succ, List.getElem?_cons_zero]; rfl) (fun K hK => ?_) AllReadyH.nil
          go_simp
          have E9' := LnW.make L6 G6 C6 hlt G6.size (Nat.le_refl _)
          obtain ⟨bx, hbx⟩ : ∃ bx, bx = V2.heap.size := ⟨_, rfl⟩
          rw [← hbx] at E9' ⊢
          obtain ⟨V9, hV9⟩ : ∃ V9, V9 = V2.alloc (Obj.cells #[Value.string ⟨#[]⟩, .string ⟨#[]⟩, .int .i64 0, .int .i64 0, .int .i64 0, .slice none 0 0] 82) := ⟨_, rfl⟩
          have S9 : V9.cell? ⟨gc, off + a * 8, none⟩ = some (.string y.code) ∧ V9.cell? ⟨gc, off + q * 8, none⟩ = some (.string z.code) := by rw [hV9]; exact ⟨cell_alloc S6.1 _, cell_alloc S6.2 _⟩
          have E9 : LnW w w.heap.size g bx A n c l ⟨⟨#[]⟩, ⟨#[]⟩, 0, 0, 0, none, 0, 0⟩ V9 := by rw [hV9]; exact E9'
          have O9 : V9.ownsRow w.heap.size 126 3 (.slice eA en ec) en (cn.flatMap cnCell) := by rw [hV9]; exact oc6.alloc _
          rw [← hV9]
          clear E9' hV9 hbx L6 G6 C6
          refine hK.out _ _ (S9) (fun hHeld => ?_)
          clear hK K
          (try simp only [Act.put, List.setIfInBounds_toArray, List.set_cons_zero, List.set_cons_succ])
          clear oc oc6 S5 S6
          refine wpAnyH_ready (rs := [17]) (by kernel_rfl) (by simp) ?_
          refine AllReadyH.cons (o := ?_) (by simp only [List.getElem?_toArray, List.getElem?_cons_succ, List.getElem?_cons_zero]; rfl) (fun K hK => ?_) AllReadyH.nil
          have x0 := E9.at_ 0 _ rfl; have x1 := E9.at_ 1 _ rfl; have x2 := E9.at_ 2 _ rfl; have x3 := E9.at_ 3 _ rfl; have x4 := E9.at_ 4 _ rfl; have x5 := E9.at_ 5 _ rfl; have xf := E9.free
          go_simp
          refine hK.out _ _ ((E9.two6 S9 (by simp only; omega) (by simp only; omega) _ _ _ _ _ _)) (fun hHeld => ?_)
          clear hK K
          (try simp only [Act.put, List.setIfInBounds_toArray, List.set_cons_zero, List.set_cons_succ])
          refine wpAnyH_done (by kernel_rfl) ?_ _
          clear x0 x1 x2 x3 x4 x5 xf hHeld
          have E8 := E9.all6 ⟨y.code, z.code, 1 + qy, 0, 999, eA, en, ec⟩
          have O8 := E9.nodes6 ⟨y.code, z.code, 1 + qy, 0, 999, eA, en, ec⟩ O9
          obtain ⟨V, hV⟩ : ∃ V, V = ((((((V9.setCell ⟨bx, 0, none⟩ (.string y.code)).setCell ⟨bx, 1, none⟩ (.string z.code)).setCell ⟨bx, 2, none⟩ (.int .i64 (1 + qy))).setCell ⟨bx, 3, none⟩ (.int .i64 0)).setCell ⟨bx, 4, none⟩ (.int .i64 999)).setCell ⟨bx, 5, none⟩ (.slice eA en ec)) := ⟨_, rfl⟩
          have EV : LnW w w.heap.size g bx A n c l ⟨y.code, z.code, 1 + qy, 0, 999, eA, en, ec⟩ V := by rw [hV]; exact E8
          have OV : V.ownsRow w.heap.size 126 3 (.slice eA en ec) en (cn.flatMap cnCell) := by rw [hV]; exact O8
          go_upto_region 9 with fail
          rw [← hV]
          clear E8 O8 hV E9 S9 O9
        rotate_left
        focus
          go_simp
          have E6' := LnW.make L5 G5 C5 hlt G5.size (Nat.le_refl _)
          obtain ⟨bx, hbx⟩ : ∃ bx, bx = V1.heap.size := ⟨_, rfl⟩
          rw [← hbx] at E6' ⊢
          obtain ⟨V2, hV2⟩ : ∃ V2, V2 = V1.alloc (Obj.cells #[Value.string ⟨#[]⟩, .string ⟨#[]⟩, .int .i64 0, .int .i64 0, .int .i64 0, .slice none 0 0] 82) := ⟨_, rfl⟩
          have S6 : V2.cell? ⟨gc, off + a * 8, none⟩ = some (.string y.code) ∧ V2.cell? ⟨gc, off + q * 8, none⟩ = some (.string z.code) := by rw [hV2]; exact ⟨cell_alloc S5.1 _, cell_alloc S5.2 _⟩
          have E6 : LnW w w.heap.size g bx A n c l ⟨⟨#[]⟩, ⟨#[]⟩, 0, 0, 0, none, 0, 0⟩ V2 := by rw [hV2]; exact E6'
          rw [← hV2]
          clear E6' hV2 hbx L5 G5 C5
          refine hK.out _ _ (S6) (fun hHeld => ?_)
          clear hK K
          (try simp only [Act.put, List.setIfInBounds_toArray, List.set_cons_zero, List.set_cons_succ])
          refine wpAnyH_ready (rs := [14]) (by kernel_rfl) (by simp) ?_
          refine AllReadyH.cons (o := ?_) (by simp only [List.getElem?_toArray, List.getElem?_cons_succ, List.getElem?_cons_zero]; rfl) (fun K hK => ?_) AllReadyH.nil
          go_simp
          (go_at_call 91; refine (l9When_any g _ E6.cur).mono ?_; rintro e V9 ⟨eA, en, ec, cn, rfl, oc, hen, hcn, hg9, C9⟩)
          go_wp2_with fail
          have O9 := own_base oc E6.gr.size
          have E9 := E6.call hg9 C9
          have S9 : V9.cell? ⟨gc, off + a * 8, none⟩ = some (.string y.code) ∧ V9.cell? ⟨gc, off + q * 8, none⟩ = some (.string z.code) := ⟨cell_grown hg9 S6.1 hne, cell_grown hg9 S6.2 hne⟩
          clear E6 hg9 C9
          refine hK.out _ _ (S9) (fun hHeld => ?_)
          clear hK K
          (try simp only [Act.put, List.setIfInBounds_toArray, List.set_cons_zero, List.set_cons_succ])
          refine wpAnyH_take (i := 15) (oi := ?_) (v := ?_) (by simp only [List.getElem?_toArray, List.getElem?_cons_succ, List.getElem?_cons_zero]; rfl) (by kernel_rfl) (by kernel_rfl) (by kernel_rfl) ?_ (Or.inl ⟨by rfl, ?_⟩) hHeld ?_
          rotate_left 1
          focus exact fun _ _ _ h => h
          focus (intro w hSw; (try dsimp only at hSw); go_simp; try with_reducible rfl)
          (try simp only [Act.put, List.setIfInBounds_toArray, List.set_cons_zero, List.set_cons_succ])
          clear oc S5 S6
          refine wpAnyH_ready (rs := [17]) (by kernel_rfl) (by simp) ?_
          refine AllReadyH.cons (o := ?_) (by simp only [List.getElem?_toArray, List.getElem?_cons_succ, List.getElem?_cons_zero]; rfl) (fun K hK => ?_) AllReadyH.nil
          have x0 := E9.at_ 0 _ rfl; have x1 := E9.at_ 1 _ rfl; have x2 := E9.at_ 2 _ rfl; have x3 := E9.at_ 3 _ rfl; have x4 := E9.at_ 4 _ rfl; have x5 := E9.at_ 5 _ rfl; have xf := E9.free
          go_simp
          refine hK.out _ _ ((E9.two6 S9 (by simp only; omega) (by simp only; omega) _ _ _ _ _ _)) (fun hHeld => ?_)
          clear hK K
          (try simp only [Act.put, List.setIfInBounds_toArray, List.set_cons_zero, List.set_cons_succ])
          refine wpAnyH_done (by kernel_rfl) ?_ _
          clear x0 x1 x2 x3 x4 x5 xf hHeld
          have E8 := E9.all6 ⟨y.code, z.code, 1 + qy, 0, 999, eA, en, ec⟩
          have O8 := E9.nodes6 ⟨y.code, z.code, 1 + qy, 0, 999, eA, en, ec⟩ O9
          obtain ⟨V, hV⟩ : ∃ V, V = ((((((V9.setCell ⟨bx, 0, none⟩ (.string y.code)).setCell ⟨bx, 1, none⟩ (.string z.code)).setCell ⟨bx, 2, none⟩ (.int .i64 (1 + qy))).setCell ⟨bx, 3, none⟩ (.int .i64 0)).setCell ⟨bx, 4, none⟩ (.int .i64 999)).setCell ⟨bx, 5, none⟩ (.slice eA en ec)) := ⟨_, rfl⟩
          have EV : LnW w w.heap.size g bx A n c l ⟨y.code, z.code, 1 + qy, 0, 999, eA, en, ec⟩ V := by rw [hV]; exact E8
          have OV : V.ownsRow w.heap.size 126 3 (.slice eA en ec) en (cn.flatMap cnCell) := by rw [hV]; exact O8
          go_upto_region 9 with fail
          rw [← hV]
          clear E8 O8 hV E9 S9 O9
        rotate_left
      rotate_left 2
      focus
        go_simp
        have E5' := LnW.make L4 G4 C4 hlt G4.size (Nat.le_refl _)
        obtain ⟨bx, hbx⟩ : ∃ bx, bx = W.heap.size := ⟨_, rfl⟩
        rw [← hbx] at E5' ⊢
        obtain ⟨V1, hV1⟩ : ∃ V1, V1 = W.alloc (Obj.cells #[Value.string ⟨#[]⟩, .string ⟨#[]⟩, .int .i64 0, .int .i64 0, .int .i64 0, .slice none 0 0] 82) := ⟨_, rfl⟩
        have S5 : V1.cell? ⟨gc, off + a * 8, none⟩ = some (.string y.code) ∧ V1.cell? ⟨gc, off + q * 8, none⟩ = some (.string z.code) := by rw [hV1]; exact ⟨cell_alloc hHeld.1 _, cell_alloc hHeld.2 _⟩
        have E5 : LnW w w.heap.size g bx A n c l ⟨⟨#[]⟩, ⟨#[]⟩, 0, 0, 0, none, 0, 0⟩ V1 := by rw [hV1]; exact E5'
        rw [← hV1]
        clear E5' hV1 hbx L4 G4 C4
        refine hK.out _ _ (S5) (fun hHeld => ?_)
        clear hK K
        (try simp only [Act.put, List.setIfInBounds_toArray, List.set_cons_zero, List.set_cons_succ])
        refine wpAnyH_ready (rs := [11]) (by kernel_rfl) (by simp) ?_
        refine AllReadyH.cons (o := ?_) (by simp only [List.getElem?_toArray, List.getElem?_cons_succ, List.getElem?_cons_zero]; rfl) (fun K hK => ?_) AllReadyH.nil
        go_simp
        (go_at_call 77; refine (l1Below_any g _ _ E5.cur (by omega)).mono ?_; rintro e V2 ⟨qy, rfl, qy0, -, qy1, hg6, C6⟩)
        have qy5 := qy1 (by omega)
        have wq : IntKind.i64.wrap (1 + qy) = 1 + qy := IntWalk.i64_in _ (by omega)
        go_wp2_with fail
        have E6 := E5.call hg6 C6
        have S6 : V2.cell? ⟨gc, off + a * 8, none⟩ = some (.string y.code) ∧ V2.cell? ⟨gc, off + q * 8, none⟩ = some (.string z.code) := ⟨cell_grown hg6 S5.1 hne, cell_grown hg6 S5.2 hne⟩
        clear E5 hg6 C6
        refine hK.out _ _ (S6) (fun hHeld => ?_)
        clear hK K
        (try simp only [Act.put, List.setIfInBounds_toArray, List.set_cons_zero, List.set_cons_succ])
        refine wpAnyH_take (i := 12) (oi := ?_) (v := ?_) (by simp only [List.getElem?_toArray, List.getElem?_cons_succ, List.getElem?_cons_zero]; rfl) (by kernel_rfl) (by kernel_rfl) (by kernel_rfl) ?_ (Or.inl ⟨by rfl, ?_⟩) hHeld ?_
        rotate_left 1
        focus exact fun _ _ _ h => h
        focus (intro w hSw; (try dsimp only at hSw); go_simp; try with_reducible rfl)
        (try simp only [Act.put, List.setIfInBounds_toArray, List.set_cons_zero, List.set_cons_succ])
        refine wpAnyH_ready (rs := [14]) (by kernel_rfl) (by simp) ?_
        refine AllReadyH.cons (o := ?_) (by simp only [List.getElem?_toArray, List.getElem?_cons_succ, List.getElem?_cons_zero]; rfl) (fun K hK => ?_) AllReadyH.nil
        go_simp
        (go_at_call 91; refine (l9When_any g _ E6.cur).mono ?_; rintro e V9 ⟨eA, en, ec, cn, rfl, oc, hen, hcn, hg9, C9⟩)
        go_wp2_with fail
        have O9 := own_base oc E6.gr.size
        have E9 := E6.call hg9 C9
        have S9 : V9.cell? ⟨gc, off + a * 8, none⟩ = some (.string y.code) ∧ V9.cell? ⟨gc, off + q * 8, none⟩ = some (.string z.code) := ⟨cell_grown hg9 S6.1 hne, cell_grown hg9 S6.2 hne⟩
        clear E6 hg9 C9
        refine hK.out _ _ (S9) (fun hHeld => ?_)
        clear hK K
        (try simp only [Act.put, List.setIfInBounds_toArray, List.set_cons_zero, List.set_cons_succ])
        refine wpAnyH_take (i := 15) (oi := ?_) (v := ?_) (by simp only [List.getElem?_toArray, List.getElem?_cons_succ, List.getElem?_cons_zero]; rfl) (by kernel_rfl) (by kernel_rfl) (by kernel_rfl) ?_ (Or.inl ⟨by rfl, ?_⟩) hHeld ?_
        rotate_left 1
        focus exact fun _ _ _ h => h
        focus (intro w hSw; (try dsimp only at hSw); go_simp; try with_reducible rfl)
        (try simp only [Act.put, List.setIfInBounds_toArray, List.set_cons_zero, List.set_cons_succ])
        clear oc S5 S6
        refine wpAnyH_ready (rs := [17]) (by kernel_rfl) (by simp) ?_
        refine AllReadyH.cons (o := ?_) (by simp only [List.getElem?_toArray, List.getElem?_cons_succ, List.getElem?_cons_zero]; rfl) (fun K hK => ?_) AllReadyH.nil
        have x0 := E9.at_ 0 _ rfl; have x1 := E9.at_ 1 _ rfl; have x2 := E9.at_ 2 _ rfl; have x3 := E9.at_ 3 _ rfl; have x4 := E9.at_ 4 _ rfl; have x5 := E9.at_ 5 _ rfl; have xf := E9.free
        go_simp
        refine hK.out _ _ ((E9.two6 S9 (by simp only; omega) (by simp only; omega) _ _ _ _ _ _)) (fun hHeld => ?_)
        clear hK K
        (try simp only [Act.put, List.setIfInBounds_toArray, List.set_cons_zero, List.set_cons_succ])
        refine wpAnyH_done (by kernel_rfl) ?_ _
        clear x0 x1 x2 x3 x4 x5 xf hHeld
        have E8 := E9.all6 ⟨y.code, z.code, 1 + qy, 0, 999, eA, en, ec⟩
        have O8 := E9.nodes6 ⟨y.code, z.code, 1 + qy, 0, 999, eA, en, ec⟩ O9
        obtain ⟨V, hV⟩ : ∃ V, V = ((((((V9.setCell ⟨bx, 0, none⟩ (.string y.code)).setCell ⟨bx, 1, none⟩ (.string z.code)).setCell ⟨bx, 2, none⟩ (.int .i64 (1 + qy))).setCell ⟨bx, 3, none⟩ (.int .i64 0)).setCell ⟨bx, 4, none⟩ (.int .i64 999)).setCell ⟨bx, 5, none⟩ (.slice eA en ec)) := ⟨_, rfl⟩
        have EV : LnW w w.heap.size g bx A n c l ⟨y.code, z.code, 1 + qy, 0, 999, eA, en, ec⟩ V := by rw [hV]; exact E8
        have OV : V.ownsRow w.heap.size 126 3 (.slice eA en ec) en (cn.flatMap cnCell) := by rw [hV]; exact O8
        go_upto_region 9 with fail
        rw [← hV]
        clear E8 O8 hV E9 S9 O9
      rotate_left
      all_goals
        go_wp2_with fail
        refine (l1Once_any g _ _ EV.cur (by omega)).mono ?_; rintro e V6 ⟨b6, rfl, hg6, C6⟩
        have E6 := EV.call hg6 C6
        have O6 := row_grown OV hg6 (cur_apart OV hlt)
        clear EV OV hg6 C6 V
        cases b6
        focus
          obtain ⟨V, hV⟩ : ∃ V, V = V6 := ⟨_, rfl⟩
          obtain ⟨fr, hfr⟩ : ∃ fr : Int, fr = 0 := ⟨_, rfl⟩
          obtain ⟨un, hun⟩ : ∃ un : Int, un = 999 := ⟨_, rfl⟩
          rw [← hV] at E6 O6 ⊢
          rw [← hfr, ← hun] at E6
          have EV := E6; have OV := O6
          have F1 : i64 fr := ⟨by omega, by omega⟩
          have F2 : i64 un := ⟨by omega, by omega⟩
          clear E6 O6 hV hfr hun
          go_upto_region 12 with fail
        rotate_left
        focus
          go_wp2_with fail
          refine (l1Below_any g _ _ E6.cur (by omega)).mono ?_; rintro e V7 ⟨fr, rfl, fr0, fr1, -, hg7, C7⟩
          have E7 := E6.call hg7 C7
          have O7 := row_grown O6 hg7 (cur_apart O6 hlt)
          have x3 := E7.at_ 3 _ rfl; have xf := E7.free 3
          have E8 := E7.fr fr
          have O8 := E7.nodes1 O7 3 (.int .i64 fr)
          clear E6 O6 hg7 C7 E7 O7
          go_upto_region 11 with fail
          clear x3 xf
          obtain ⟨V8, hV8⟩ : ∃ V8, V8 = V7.setCell ⟨bx, 3, none⟩ (.int .i64 fr) := ⟨_, rfl⟩
          rw [← hV8] at E8 O8 ⊢
          clear hV8
          have x3 := E8.at_ 3 _ rfl
          refine wp_region_held_drew (S := fun v => v.cell? ⟨bx, 3, none⟩ = some (.int .i64 fr)) (by kernel_rfl) x3 (fun hHeld => ?_)
          have BD : Below V8.heap.size V8 V8.drew := (Below.refl V8.heap.size V8).drew
          obtain ⟨W, hW⟩ : ∃ W, W = V8.drew := ⟨_, rfl⟩
          have E9 : LnW w w.heap.size g bx A n c l ⟨y.code, z.code, 1 + qy, fr, 999, eA, en, ec⟩ W := by rw [hW]; exact E8.below BD
          have O9 : W.ownsRow w.heap.size 126 3 (.slice eA en ec) en (cn.flatMap cnCell) := by rw [hW]; exact own_below O8 BD
          rw [← hW] at hHeld ⊢
          clear x3 E8 O8 BD hW
          refine wpAnyH_take (i := 0) (oi := ?_) (v := ?_) (by simp only [List.getElem?_toArray, List.getElem?_cons_zero]; rfl) (by kernel_rfl) (by kernel_rfl) (by kernel_rfl) ?_ (Or.inl ⟨by rfl, ?_⟩) hHeld ?_
          rotate_left 1
          focus exact fun _ _ _ h => h
          focus (intro w hSw; (try dsimp only at hSw); go_simp; try with_reducible rfl)
          (try simp only [Act.put, List.setIfInBounds_toArray, List.set_cons_zero, List.set_cons_succ])
          refine wpAnyH_take (i := 1) (oi := ?_) (v := ?_) (by simp only [List.getElem?_toArray, List.getElem?_cons_succ, List.getElem?_cons_zero]; rfl) (by kernel_rfl) (by kernel_rfl) (by kernel_rfl) ?_ (Or.inl ⟨by rfl, ?_⟩) hHeld ?_
          rotate_left 1
          focus exact fun _ _ _ h => h
          focus (intro w hSw; (try dsimp only at hSw); go_simp; try with_reducible rfl)
          (try simp only [Act.put, List.setIfInBounds_toArray, List.set_cons_zero, List.set_cons_succ])
          refine wpAnyH_take (i := 2) (oi := ?_) (v := ?_) (by simp only [List.getElem?_toArray, List.getElem?_cons_succ, List.getElem?_cons_zero]; rfl) (by kernel_rfl) (by kernel_rfl) (by kernel_rfl) ?_ (Or.inl ⟨by rfl, ?_⟩) hHeld ?_
          rotate_left 1
          focus exact fun _ _ _ h => h
          focus (intro w hSw; (try dsimp only at hSw); go_simp; try with_reducible rfl)
          (try simp only [Act.put, List.setIfInBounds_toArray, List.set_cons_zero, List.set_cons_succ])
          refine wpAnyH_ready (rs := [3]) (by kernel_rfl) (by simp) ?_
          refine AllReadyH.cons (o := ?_) (by simp only [List.getElem?_toArray, List.getElem?_cons_succ, List.getElem?_cons_zero]; rfl) (fun K hK => ?_) AllReadyH.nil
          go_simp
          (go_at_call 77; refine (l1Below_any g _ _ E9.cur (by omega)).mono ?_; rintro e U ⟨dv, rfl, dv0, dv1, -, hgU, CU⟩)
          have wd : IntKind.i64.wrap (fr + dv) = fr + dv := IntWalk.i64_in _ (by omega)
          go_wp2_with fail
          have EU := E9.call hgU CU
          have OU := row_grown O9 hgU (cur_apart O9 hlt)
          clear E9 O9 hgU CU
          have y3 := EU.at_ 3 _ rfl
          refine hK.out _ _ (y3) (fun hHeld => ?_)
          clear hK K
          (try simp only [Act.put, List.setIfInBounds_toArray, List.set_cons_zero, List.set_cons_succ])
          refine wpAnyH_take (i := 4) (oi := ?_) (v := ?_) (by simp only [List.getElem?_toArray, List.getElem?_cons_succ, List.getElem?_cons_zero]; rfl) (by kernel_rfl) (by kernel_rfl) (by kernel_rfl) ?_ (Or.inl ⟨by rfl, ?_⟩) hHeld ?_
          rotate_left 1
          focus exact fun _ _ _ h => h
          focus (intro w hSw; (try dsimp only at hSw); go_simp; try with_reducible rfl)
          (try simp only [Act.put, List.setIfInBounds_toArray, List.set_cons_zero, List.set_cons_succ])
          refine wpAnyH_take (i := 5) (oi := ?_) (v := ?_) (by simp only [List.getElem?_toArray, List.getElem?_cons_succ, List.getElem?_cons_zero]; rfl) (by kernel_rfl) (by kernel_rfl) (by kernel_rfl) ?_ (Or.inl ⟨by rfl, ?_⟩) hHeld ?_
          rotate_left 1
          focus exact fun _ _ _ h => h
          focus (intro w hSw; (try dsimp only at hSw); go_simp; try with_reducible rfl)
          (try simp only [Act.put, List.setIfInBounds_toArray, List.set_cons_zero, List.set_cons_succ])
          refine wpAnyH_ready (rs := [6]) (by kernel_rfl) (by simp) ?_
          refine AllReadyH.cons (o := ?_) (by simp only [List.getElem?_toArray, List.getElem?_cons_succ, List.getElem?_cons_zero]; rfl) (fun K hK => ?_) AllReadyH.nil
          have y4 := EU.at_ 4 _ rfl; have yf := EU.free 4
          have E10 := EU.un (fr + dv)
          have O10 := EU.nodes1 OU 4 (.int .i64 (fr + dv))
          have z3 := E10.at_ 3 _ rfl
          go_simp
          refine hK.out _ _ (z3) (fun hHeld => ?_)
          clear hK K
          (try simp only [Act.put, List.setIfInBounds_toArray, List.set_cons_zero, List.set_cons_succ])
          refine wpAnyH_done (by kernel_rfl) ?_ _
          clear hHeld z3 y3 y4 yf EU OU
          go_upto_region 12 with fail
          obtain ⟨V, hV⟩ : ∃ V, V = U.setCell ⟨bx, 4, none⟩ (.int .i64 (fr + dv)) := ⟨_, rfl⟩
          obtain ⟨un, hun⟩ : ∃ un : Int, un = fr + dv := ⟨_, rfl⟩
          rw [← hV] at E10 O10 ⊢
          have EV : LnW w w.heap.size g bx A n c l ⟨y.code, z.code, 1 + qy, fr, un, eA, en, ec⟩ V := by rw [hun]; exact E10
          have OV := O10
          have F1 : i64 fr := ⟨by omega, by omega⟩
          have F2 : i64 un := ⟨by omega, by omega⟩
          clear E10 O10 hV hun wd fr0 fr1 dv0 dv1
        rotate_left
        all_goals
          have x0 := EV.at_ 0 _ rfl; have x1 := EV.at_ 1 _ rfl; have x2 := EV.at_ 2 _ rfl; have x3 := EV.at_ 3 _ rfl; have x4 := EV.at_ 4 _ rfl; have x5 := EV.at_ 5 _ rfl
          obtain ⟨vs, o, hl, h3⟩ := EV.lines.below (below_box V (Obj.cells #[.string y.code, .string z.code, .int .i64 (1 + qy), .int .i64 fr, .int .i64 un, .slice eA en ec] 82))
          have oc := OV.alloc (Obj.cells #[.string y.code, .string z.code, .int .i64 (1 + qy), .int .i64 fr, .int .i64 un, .slice eA en ec] 82)
          have hcl := (RS.of_own OV).flatLen cnCell_len (by omega)
          have GB := EV.gr.trans (World.grownBy_alloc V (Obj.cells #[.string y.code, .string z.code, .int .i64 (1 + qy), .int .i64 fr, .int .i64 un, .slice eA en ec] 82) (some g))
          have CB := EV.cur.below (below_box V (Obj.cells #[.string y.code, .string z.code, .int .i64 (1 + qy), .int .i64 fr, .int .i64 un, .slice eA en ec] 82))
          have zV := EV.gr.size
          have F0 : i64 (1 + qy) := ⟨by omega, by omega⟩
          clear EV OV
          go_wp2_with (at_builtin; refine wpList_app _ rfl _ _ _ rfl w.heap.size 82 i0 _ 6 80 Try.underlying40 hi hz0 hz1 hz2 rfl (by omega) _ n (vs.flatMap blCell) rfl o _ 1 1 (blCell ⟨y.code, z.code, 1 + qy, fr, un, eA, en, ec⟩) rfl (RS_new (by simp)) (blCell_one _) (by unfold maxLen; omega) (by omega) (by simp; omega) ?_; intro A4 c4 w4 o4 g4 at4 b4)
          have L4 := lines_snoc (d := ⟨y.code, z.code, 1 + qy, fr, un, cn⟩) o hl h3 ⟨rfl, rfl, rfl, rfl, rfl⟩ oc g4 o4
          have G4 := grown_own GB g4 (fun j hj => (o.lt j hj).1)
          have C4 := cur_grown CB g4 (fun j hj => by have := (o.lt j hj).1; omega)
          have OK4 : ∀ x ∈ l ++ [(⟨y.code, z.code, 1 + qy, fr, un, cn⟩ : Bl)], billOk x := snoc_mem hok.out ⟨OY.out.1, OZ.out.1, F0, F1, F2, by simp only; omega, hcn⟩
          clear o4 g4 at4 b4 oc h3 hl o GB CB x0 x1 x2 x3 x4 x5
          go_roundw
          case rel => exact ⟨m - 1, A4, n + 1, c4, _, by omega, by omega, by go_num, rfl, L4, OK4, G4, C4⟩
          case measure => simp [intOf]; omega
    · by_cases hm0 : 0 < m
      focus
        have hn1 : ¬ (1 : Int) < nc := by omega
        go_upto_region 13 with fail
      rotate_left
      focus
        go_upto_region 13 with fail
      rotate_left
      all_goals
        have n8 : n ≤ 8 := by omega
        go_wp2_with fail
        refine (l1Below_any g _ _ hc (by omega)).mono ?_; rintro e w2 ⟨k, rfl, hk0, hk1, -, hg2, hc2⟩
        have L2 := hL.grown hg2 hlt
        have G2 := hg.trans hg2
        have z2 := G2.size
        clear hL hg hc hg2
        by_cases e0 : k = 0
        · subst e0
          have OC := own_new w2 (base := w.heap.size) (e := 126) (size := 3) (n := 1) #[.int .i64 0, .string ⟨#[]⟩, .string ⟨#[]⟩] z2 (by unfold maxLen; omega) rfl
          have bb := below_then (below_box w2 (Obj.cells #[.int .i64 0, .string ⟨#[]⟩, .string ⟨#[]⟩] 126)) (below_box _ (Obj.cells #[.string ⟨#[67]⟩, .string ⟨#[65]⟩, .int .i64 1, .int .i64 0, .int .i64 9, .slice (some ⟨w2.heap.size, 0, none⟩) 1 1] 82))
          obtain ⟨vs, o, hl, h3⟩ := L2.below bb
          have oc := OC.alloc (Obj.cells #[.string ⟨#[67]⟩, .string ⟨#[65]⟩, .int .i64 1, .int .i64 0, .int .i64 9, .slice (some ⟨w2.heap.size, 0, none⟩) 1 1] 82)
          have GB := grown_below G2 bb
          have CB := hc2.below bb
          clear L2 G2 hc2 OC bb
          go_wp2_with (at_builtin; refine wpList_app _ rfl _ _ _ rfl w.heap.size 82 i0 _ 6 80 Try.underlying40 hi hz0 hz1 hz2 rfl (by omega) _ n (vs.flatMap blCell) rfl o _ 1 1 (blCell ⟨⟨#[67]⟩, ⟨#[65]⟩, 1, 0, 9, some ⟨w2.heap.size, 0, none⟩, 1, 1⟩) rfl (RS_new2 (by simp)) (blCell_one _) (by unfold maxLen; omega) (by omega) (by simp; omega) ?_; intro A4 c4 w4 o4 g4 at4 b4)
          have L4 := lines_snoc (d := ⟨⟨#[67]⟩, ⟨#[65]⟩, 1, 0, 9, [⟨0, ⟨#[]⟩, ⟨#[]⟩⟩]⟩) o hl h3 ⟨rfl, rfl, rfl, rfl, rfl⟩ oc g4 o4
          have G4 := grown_own GB g4 (fun j hj => (o.lt j hj).1)
          have C4 := cur_grown CB g4 (fun j hj => by have := (o.lt j hj).1; omega)
          have OK4 : ∀ x ∈ l ++ [(⟨⟨#[67]⟩, ⟨#[65]⟩, 1, 0, 9, [⟨0, ⟨#[]⟩, ⟨#[]⟩⟩]⟩ : Bl)], billOk x := snoc_mem hok.out ⟨by decide, by decide, by simp [i64], by simp [i64], by simp [i64], by simp, by simp only [List.mem_singleton, forall_eq]; exact ⟨by simp [i64], by decide, by decide⟩⟩
          clear o4 g4 at4 b4 oc h3 hl o GB CB
          go_wp2_with fail
          go_ret
          exact ⟨A4, n + 1, c4, _, rfl, L4, by omega, OK4, G4, C4⟩
        have b0 : (k == 0) = false := by simpa using e0
        by_cases e1 : k = 1
        · subst e1
          clear b0 e0
          have OC := own_new w2 (base := w.heap.size) (e := 126) (size := 3) (n := 1) #[.int .i64 0, .string ⟨#[]⟩, .string ⟨#[]⟩] z2 (by unfold maxLen; omega) rfl
          have bb := below_then (below_box w2 (Obj.cells #[.int .i64 0, .string ⟨#[]⟩, .string ⟨#[]⟩] 126)) (below_box _ (Obj.cells #[.string ⟨#[65]⟩, .string ⟨#[81]⟩, .int .i64 1, .int .i64 0, .int .i64 9, .slice (some ⟨w2.heap.size, 0, none⟩) 1 1] 82))
          obtain ⟨vs, o, hl, h3⟩ := L2.below bb
          have oc := OC.alloc (Obj.cells #[.string ⟨#[65]⟩, .string ⟨#[81]⟩, .int .i64 1, .int .i64 0, .int .i64 9, .slice (some ⟨w2.heap.size, 0, none⟩) 1 1] 82)
          have GB := grown_below G2 bb
          have CB := hc2.below bb
          clear L2 G2 hc2 OC bb
          go_wp2_with (at_builtin; refine wpList_app _ rfl _ _ _ rfl w.heap.size 82 i0 _ 6 80 Try.underlying40 hi hz0 hz1 hz2 rfl (by omega) _ n (vs.flatMap blCell) rfl o _ 1 1 (blCell ⟨⟨#[65]⟩, ⟨#[81]⟩, 1, 0, 9, some ⟨w2.heap.size, 0, none⟩, 1, 1⟩) rfl (RS_new2 (by simp)) (blCell_one _) (by unfold maxLen; omega) (by omega) (by simp; omega) ?_; intro A4 c4 w4 o4 g4 at4 b4)
          have L4 := lines_snoc (d := ⟨⟨#[65]⟩, ⟨#[81]⟩, 1, 0, 9, [⟨0, ⟨#[]⟩, ⟨#[]⟩⟩]⟩) o hl h3 ⟨rfl, rfl, rfl, rfl, rfl⟩ oc g4 o4
          have G4 := grown_own GB g4 (fun j hj => (o.lt j hj).1)
          have C4 := cur_grown CB g4 (fun j hj => by have := (o.lt j hj).1; omega)
          have OK4 : ∀ x ∈ l ++ [(⟨⟨#[65]⟩, ⟨#[81]⟩, 1, 0, 9, [⟨0, ⟨#[]⟩, ⟨#[]⟩⟩]⟩ : Bl)], billOk x := snoc_mem hok.out ⟨by decide, by decide, by simp [i64], by simp [i64], by simp [i64], by simp, by simp only [List.mem_singleton, forall_eq]; exact ⟨by simp [i64], by decide, by decide⟩⟩
          clear o4 g4 at4 b4 oc h3 hl o GB CB
          go_wp2_with fail
          go_ret
          exact ⟨A4, n + 1, c4, _, rfl, L4, by omega, OK4, G4, C4⟩
        have b1 : (k == 1) = false := by simpa using e1
        by_cases e2 : k = 2
        · subst e2
          clear b0 e0 b1 e1
          by_cases hn0 : n ≤ 0
          · have q1 : ¬ (0 : Int) < n := by omega
            go_wp2_with fail
            go_ret
            exact ⟨A, n, c, l, rfl, L2, by omega, hok.out, G2, hc2⟩
          have q1 : (0 : Int) < n := by omega
          go_wp2_with fail
          refine (l1PickInt_any g _ _ _ [0, 1000, 1001] _ (hc2.below (below_box _ _)) (RS_new (by simp)) (by simp [i64]) (by omega) (by omega) (fun a e => by injection e with e; subst e; show w2.heap.size ≠ g; omega)).mono ?_; rintro e w3 ⟨v, rfl, hv, hg3, hc3⟩
          have L3 := (L2.below (below_box w2 (Obj.cells #[.int .i64 0, .int .i64 1000, .int .i64 1001] 3))).grown hg3 hlt
          have G3 := (G2.trans (World.grownBy_alloc w2 (Obj.cells #[.int .i64 0, .int .i64 1000, .int .i64 1001] 3) (some g))).trans hg3
          clear L2 G2 hc2 hg3
          obtain ⟨vs, o, hl, h3⟩ := L3
          obtain ⟨a, rfl, ha1, ha2, hcell, hfr⟩ := own_addr o (by omega)
          have hvl := (RS.of_own o).flatLen blCell_len (by omega)
          obtain ⟨x, t, rfl⟩ : ∃ x t, vs = x :: t := by
            cases vs with
            | nil => simp at hvl; omega
            | cons x t => exact ⟨x, t, rfl⟩
          obtain ⟨d, t', rfl⟩ : ∃ d t, l = d :: t := by
            cases l with
            | nil => simp at hl
            | cons d t => exact ⟨d, t, rfl⟩
          have c2 : w3.cell? ⟨a, 2, none⟩ = some (.int .i64 x.qty) := (hcell 2 (by omega)).trans rfl
          have L4 := LinesO.qty (show LinesO w3 w.heap.size (some ⟨a, 0, none⟩) n c (d :: t') from ⟨_, o, hl, h3⟩) v
          have G4 := grown_setNew' G3 (p := ⟨a, 2, none⟩) ha1 (.int .i64 v)
          have C4 := cur_setNew' hc3 (p := ⟨a, 2, none⟩) (show g < a by omega) (.int .i64 v)
          have DO := hok.out d (by simp)
          have OK4 : ∀ u ∈ ({ d with qty := v } : Bl) :: t', billOk u := fun u hu => (List.mem_cons.1 hu).elim (fun h => by rw [h]; exact ⟨DO.1, DO.2.1, hv, DO.2.2.2.1, DO.2.2.2.2.1, DO.2.2.2.2.2.1, DO.2.2.2.2.2.2⟩) (fun h => hok.out u (by simp [h]))
          clear o hl h3 hcell hvl G3 hc3 hok DO
          go_wp2_with fail
          go_ret
          exact ⟨_, n, c, _, rfl, L4, by omega, OK4, G4, C4⟩
        have b2 : (k == 2) = false := by simpa using e2
        go_wp2_with fail
        go_ret
        exact ⟨A, n, c, l, rfl, L2, by omega, hok.out, G2, hc2⟩
end Go.Proofs.Ytnhkpdaogclfjaa
