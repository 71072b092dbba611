/- The walk of book. No condition. -/
import Derived.Test.YtlgodbjbllpipaaBkLate
import Derived.Test.YtlgodbjbllpipaaLay5
namespace Go.Proofs.Ytlgodbjbllpipaa
open Go.ChangeShapes Go.WideShapes Go.ChangeAt Go.RowKit

theorem isEvent_ways {e : Ev} (h : isEvent e = true) : (e.kind = 1 ∧ 1 ≤ e.a ∧ e.a ≤ 100000) ∨ (e.kind = 3 ∧ 1 ≤ e.a ∧ e.a ≤ 100000) ∨ (e.kind = 2 ∧ e.a = 0) ∨ (e.kind = 4 ∧ 1 ≤ e.a ∧ e.a ≤ 100000) ∨ (e.kind = 5 ∧ -100000 ≤ e.a ∧ e.a ≤ 100000) := by
  simp only [isEvent, Bool.and_eq_true] at h
  obtain ⟨_, _, _, h⟩ := h
  split at h
  · next hk =>
    simp only [Bool.and_eq_true] at h
    have := inB_true.1 h.2.1
    omega
  · split at h
    · next hk =>
      simp only [Bool.and_eq_true, beq_iff_eq] at h
      omega
    · split at h
      · next hk =>
        simp only [Bool.and_eq_true] at h
        have := inB_true.1 h.2.1
        omega
      · cases h
theorem BkO.below {w w' : World} {lo q : Nat} {ss : List Shf} {k : Int} {ds : List Doc} (h : BkO w lo q ss k ds) (hb : Below w.heap.size w w') : BkO w' lo q ss k ds :=
  let ⟨sA, sn, sc, dA, dn, dc, hq, hlq, hbk⟩ := h; ⟨sA, sn, sc, dA, dn, dc, blk_keep hb hq, hlq, (hbk.below hb).top⟩
theorem BkO.setk {w : World} {lo q : Nat} {ss : List Shf} {k : Int} {ds : List Doc} (h : BkO w lo q ss k ds) (k' : Int) : BkO (w.setCell ⟨q, 1, none⟩ (.int .i64 k')) lo q ss k' ds :=
  let ⟨sA, sn, sc, dA, dn, dc, hq, hlq, hbk⟩ := h; ⟨sA, sn, sc, dA, dn, dc, heap_setCell_same w q 1 _ _ (.int .i64 k') hq, hlq, (hbk.setq hq rfl).top⟩
theorem BkO.work {w : World} {lo q : Nat} {ss : List Shf} {k : Int} {ds : List Doc} (h : BkO w lo q ss k ds) : w.cell? ⟨q, 1, none⟩ = some (.int .i64 k) ∧ (∀ j, w.frozen? ⟨q, j, none⟩ = false) ∧ lo ≤ q ∧ q < w.heap.size ∧ ∃ cs, w.heap[q]? = some (.cells cs 31 (0, 0)) :=
  let ⟨_, _, _, _, _, _, hq, hlq, _⟩ := h; ⟨blk_at hq rfl, blk_free hq, hlq, (Array.getElem?_eq_some_iff.1 hq).1, _, hq⟩
theorem below_grownq {w w' : World} {lo q : Nat} (hg : w.grownBy w' (some q)) (hlo : lo ≤ w.heap.size) (hq : lo ≤ q) : Below lo w w' :=
  (Below.refl _ _).grown hg hlo fun k hk => by injection hk with hk; omega
theorem names_small {es : List En} (h : ∀ x ∈ es, x.acc.size ≤ 6) : ∀ x ∈ es, x.acc.size ≤ 9223372036854775807 := fun x hx => Nat.le_trans (h x hx) (by omega)

theorem t_sizes : tStock.size ≤ 9223372036854775807 ∧ tSupply.size ≤ 9223372036854775807 ∧ tWork.size ≤ 9223372036854775807 ∧ tCash.size ≤ 9223372036854775807 ∧ tSales.size ≤ 9223372036854775807 ∧ tCost.size ≤ 9223372036854775807 := by decide
theorem buyE_small (e : Ev) : ∀ x ∈ buyE e, x.acc.size ≤ 9223372036854775807 := by simp [buyE, t_sizes]
theorem makeE_small (e : Ev) : ∀ x ∈ makeE e, x.acc.size ≤ 9223372036854775807 := by simp [makeE, t_sizes]
theorem issE_small (c : Int) : ∀ x ∈ issE c, x.acc.size ≤ 9223372036854775807 := by simp [issE, t_sizes]
theorem sellE_small (e : Ev) (c : Int) : ∀ x ∈ sellE e c, x.acc.size ≤ 9223372036854775807 := by simp [sellE, t_sizes]
theorem lateE_small (e : Ev) (c : Int) : ∀ x ∈ lateE e c, x.acc.size ≤ 9223372036854775807 := by simp [lateE, t_sizes]
set_option maxRecDepth 100000 in
set_option maxHeartbeats 8000000 in
theorem implBookBuy (lo q : Nat) (b : Bk) (e : Ev) (w : World) (h : BkO w lo q b.ss b.k b.ds) (hlo : lo ≤ w.heap.size) (hss : shsOk b.ss = true) (hok : docsSmall b.ds) (hdn : b.ds.length ≤ 1048576) (hwk : 0 ≤ b.k ∧ b.k ≤ 1000000000) (hk : e.kind = 1) (ha1 : 1 ≤ e.a) (ha2 : e.a ≤ 100000) :
    Calls Try.prog 60 #[.pointer (some ⟨q, 0, none⟩), evAgg e] w fun r w' => r = .returned (.int .i64 (bookBuy b e).1) ∧ ((bookBuy b e).1 = 0 → BkO w' lo q (bookBuy b e).2.ss (bookBuy b e).2.k (bookBuy b e).2.ds) ∧ Below lo w w' := by
  obtain ⟨ss, k, ds⟩ := b
  simp only at h hss hok hdn hwk
  obtain ⟨hwk1, hwk2⟩ := hwk
  obtain ⟨id, day, kind, item, eq, ea, er⟩ := e
  simp only at hk ha1 ha2
  subst hk
  obtain ⟨qk, qf, hlq, hqs, cs, hqb⟩ := h.work
  have b0 := Lib.hid (below_box w (Obj.cells #[.int .i64 id, .int .i64 day, .int .i64 1, .string item, .int .i64 eq, .int .i64 ea, .int .i64 er] 44))
  have E := Lib.hid (blk_new1 w (Obj.cells #[.int .i64 id, .int .i64 day, .int .i64 1, .string item, .int .i64 eq, .int .i64 ea, .int .i64 er] 44))
  have HB := Lib.hid (h.below b0.out)
  have OK := Lib.hid hok
  have zW : lo ≤ (w.alloc (Obj.cells #[.int .i64 id, .int .i64 day, .int .i64 1, .string item, .int .i64 eq, .int .i64 ea, .int .i64 er] 44)).heap.size := Nat.le_trans hlo b0.out.size
  clear h qk qf hqb cs hok
  go_enter Try.func60, Try.ntmps60
  have B0 := Lib.hid (b0.out.mono hlo); have B0z := zW
  cases hr : recvOk ss item eq ea
  · have HR := Lib.hid hr; clear hr
    have R := Lib.hid (show (bookBuy ⟨ss, k, ds⟩ ⟨id, day, 1, item, eq, ea, er⟩).1 = 3 by simp [bookBuy, HR.out])
    go_wp2_with fail
    refine (implReceiveBk lo q ss (k) ds ⟨id, day, 1, item, eq, ea, er⟩ _ HB.out B0z hss).mono ?_; rw [HR.out]; rintro r w1 ⟨rfl, _, hb1, _⟩
    have B1 := Lib.hid (B0.out.trans hb1)
    go_wp2_with fail
    go_ret
    rw [R.out]
    exact ⟨rfl, (fun h => by cases h), B1.out⟩
  · have HR := Lib.hid hr; clear hr
    go_wp2_with fail
    refine (implReceiveBk lo q ss (k) ds ⟨id, day, 1, item, eq, ea, er⟩ _ HB.out B0z hss).mono ?_; rw [HR.out]; rintro r w1 ⟨rfl, h1, hb1, hk1⟩
    have H1 := Lib.hid (h1 rfl); have E1 := Lib.hid (hk1 _ _ _ (.inl rfl) E.out); have B1 := Lib.hid (B0.out.trans hb1); have B1z : lo ≤ w1.heap.size := Nat.le_trans B0z hb1.size
    clear h1 hb1 hk1
    have ec := evCells (e := ⟨id, day, 1, item, eq, ea, er⟩) E1.out; obtain ⟨c0, c1, c2, c3, c4, c5, c6⟩ := ec; simp only at c0 c1 c2 c3 c4 c5 c6
    cases hp : bkPostOk ds day (buyE ⟨id, day, 1, item, eq, ea, er⟩)
    · have HP := Lib.hid hp; clear hp
      have R := Lib.hid (show (bookBuy ⟨ss, k, ds⟩ ⟨id, day, 1, item, eq, ea, er⟩).1 = 3 by simp [bookBuy, HR.out, postB, HP.out])
      go_wp2_with fail
      refine (implPostBk lo q (recvSs ss item eq ea id) (k) ds day _ 2 2 (buyE ⟨id, day, 1, item, eq, ea, er⟩) _ (H1.out.below (below_box _ _)) (Nat.le_trans B1z (below_box _ _).size) OK.out hdn (RS_new (by rfl)) (by omega) (buyE_small _)).mono ?_; rw [HP.out]; rintro r w5 ⟨rfl, h5, g5⟩
      have B5 := Lib.hid (B1.out.trans ((below_box _ _).mono B1z |>.trans (below_grownq g5 (Nat.le_trans B1z (below_box _ _).size) hlq)))
      clear h5 g5
      go_wp2_with fail
      go_ret
      rw [R.out]
      exact ⟨rfl, (fun h => by cases h), B5.out⟩
    · have HP := Lib.hid hp; clear hp
      have R := Lib.hid (show bookBuy ⟨ss, k, ds⟩ ⟨id, day, 1, item, eq, ea, er⟩ = (0, ⟨recvSs ss item eq ea id, k, bkPostDs ds day (buyE ⟨id, day, 1, item, eq, ea, er⟩)⟩) by simp [bookBuy, HR.out, postB, HP.out])
      go_wp2_with fail
      refine (implPostBk lo q (recvSs ss item eq ea id) (k) ds day _ 2 2 (buyE ⟨id, day, 1, item, eq, ea, er⟩) _ (H1.out.below (below_box _ _)) (Nat.le_trans B1z (below_box _ _).size) OK.out hdn (RS_new (by rfl)) (by omega) (buyE_small _)).mono ?_; rw [HP.out]; rintro r w5 ⟨rfl, h5, g5⟩
      have B5 := Lib.hid (B1.out.trans ((below_box _ _).mono B1z |>.trans (below_grownq g5 (Nat.le_trans B1z (below_box _ _).size) hlq)))
      have H5 := Lib.hid (h5 rfl)
      clear h5 g5
      go_wp2_with fail
      go_ret
      rw [R.out]
      exact ⟨rfl, fun _ => H5.out, B5.out⟩
set_option maxRecDepth 100000 in
set_option maxHeartbeats 8000000 in
theorem implBookMake (lo q : Nat) (b : Bk) (e : Ev) (w : World) (h : BkO w lo q b.ss b.k b.ds) (hlo : lo ≤ w.heap.size) (hss : shsOk b.ss = true) (hok : docsSmall b.ds) (hdn : b.ds.length ≤ 1048576) (hwk : 0 ≤ b.k ∧ b.k ≤ 1000000000) (hk : e.kind = 3) (ha1 : 1 ≤ e.a) (ha2 : e.a ≤ 100000) :
    Calls Try.prog 60 #[.pointer (some ⟨q, 0, none⟩), evAgg e] w fun r w' => r = .returned (.int .i64 (bookMake b e).1) ∧ ((bookMake b e).1 = 0 → BkO w' lo q (bookMake b e).2.ss (bookMake b e).2.k (bookMake b e).2.ds) ∧ Below lo w w' := by
  obtain ⟨ss, k, ds⟩ := b
  simp only at h hss hok hdn hwk
  obtain ⟨hwk1, hwk2⟩ := hwk
  obtain ⟨id, day, kind, item, eq, ea, er⟩ := e
  simp only at hk ha1 ha2
  subst hk
  obtain ⟨qk, qf, hlq, hqs, cs, hqb⟩ := h.work
  have b0 := Lib.hid (below_box w (Obj.cells #[.int .i64 id, .int .i64 day, .int .i64 3, .string item, .int .i64 eq, .int .i64 ea, .int .i64 er] 44))
  have E := Lib.hid (blk_new1 w (Obj.cells #[.int .i64 id, .int .i64 day, .int .i64 3, .string item, .int .i64 eq, .int .i64 ea, .int .i64 er] 44))
  have HB := Lib.hid (h.below b0.out)
  have OK := Lib.hid hok
  have zW : lo ≤ (w.alloc (Obj.cells #[.int .i64 id, .int .i64 day, .int .i64 3, .string item, .int .i64 eq, .int .i64 ea, .int .i64 er] 44)).heap.size := Nat.le_trans hlo b0.out.size
  clear h qk qf hqb cs hok
  have B0 := Lib.hid (b0.out.mono hlo)
  obtain ⟨W, hW⟩ : ∃ W, W = (w.alloc (Obj.cells #[.int .i64 id, .int .i64 day, .int .i64 3, .string item, .int .i64 eq, .int .i64 ea, .int .i64 er] 44)) := ⟨_, rfl⟩
  rw [← hW] at b0 E HB B0 zW
  have q1 := HB.out.work.1
  have c5 := (evCells (e := ⟨id, day, 3, item, eq, ea, er⟩) E.out).2.2.2.2.2.1
  simp only at c5
  by_cases hkm : k < ea
  · have R := Lib.hid (show (bookMake ⟨ss, k, ds⟩ ⟨id, day, 3, item, eq, ea, er⟩).1 = 2 by simp [bookMake, hkm])
    go_enter Try.func60, Try.ntmps60
    go_wp2_with fail
    rw [← hW]
    have HK := Lib.hid hkm
    clear hkm hW
    go_quiet (fail)
    have hkm := HK.out
    go_wp2_with fail
    go_ret
    rw [R.out]
    exact ⟨rfl, (fun h => by cases h), below_drewN B0.out nq⟩
  · have HK := Lib.hid hkm
    go_enter Try.func60, Try.ntmps60
    go_wp2_with fail
    rw [← hW]
    clear hW
    go_quiet (fail)
    go_wp2_with fail
    have BU := Lib.hid (below_drewN (Below.refl W.heap.size W) nq)
    generalize W.drewN nq = u at *
    have q1 := cell_keep BU.out q1; have c5 := cell_keep BU.out c5
    have HU := Lib.hid (HB.out.below BU.out)
    obtain ⟨_, qf, _, qs, cs, hqb⟩ := HU.out.work
    have EU := Lib.hid (blk_keep BU.out E.out)
    have wk : IntKind.i64.wrap (k - ea) = k - ea := IntWalk.i64_in _ (by omega)
    refine wp_region_cut (S := fun w' => w'.cell? ⟨q, 1, none⟩ = some (.int .i64 k) ∧ w'.cell? ⟨w.heap.size, 5, none⟩ = some (.int .i64 ea)) 9 (by kernel_rfl) (by kernel_rfl) (by simp only [List.pop_toArray, List.dropLast_cons_cons, List.dropLast_singleton]; rfl) ⟨q1, c5⟩ (fun hHeld => ?_)
    refine wpAnyH_take (i := 0) (oi := ?_) (v := ?_) (by simp only [List.getElem?_toArray, List.getElem?_cons_zero]; rfl) (by kernel_rfl) (by kernel_rfl) (by kernel_rfl) ?_ (Or.inl ⟨by rfl, ?_⟩) hHeld ?_
    rotate_left 1
    focus exact CutPost.panic fun _ _ _ h => h
    focus (intro w hSw; (try dsimp only at hSw); go_simp; try with_reducible rfl)
    (try simp only [Act.put, List.setIfInBounds_toArray, List.set_cons_zero, List.set_cons_succ])
    refine wpAnyH_take (i := 1) (oi := ?_) (v := ?_) (by simp only [List.getElem?_toArray, List.getElem?_cons_succ, List.getElem?_cons_zero]; rfl) (by kernel_rfl) (by kernel_rfl) (by kernel_rfl) ?_ (Or.inl ⟨by rfl, ?_⟩) hHeld ?_
    rotate_left 1
    focus exact CutPost.panic fun _ _ _ h => h
    focus (intro w hSw; (try dsimp only at hSw); go_simp; try with_reducible rfl)
    (try simp only [Act.put, List.setIfInBounds_toArray, List.set_cons_zero, List.set_cons_succ])
    refine wpAnyH_take (i := 2) (oi := ?_) (v := ?_) (by simp only [List.getElem?_toArray, List.getElem?_cons_succ, List.getElem?_cons_zero]; rfl) (by kernel_rfl) (by kernel_rfl) (by kernel_rfl) ?_ (Or.inl ⟨by rfl, ?_⟩) hHeld ?_
    rotate_left 1
    focus exact CutPost.panic fun _ _ _ h => h
    focus (intro w hSw; (try dsimp only at hSw); go_simp; try with_reducible rfl)
    (try simp only [Act.put, List.setIfInBounds_toArray, List.set_cons_zero, List.set_cons_succ])
    refine wpAnyH_take (i := 3) (oi := ?_) (v := ?_) (by simp only [List.getElem?_toArray, List.getElem?_cons_succ, List.getElem?_cons_zero]; rfl) (by kernel_rfl) (by kernel_rfl) (by kernel_rfl) ?_ (Or.inl ⟨by rfl, ?_⟩) hHeld ?_
    rotate_left 1
    focus exact CutPost.panic fun _ _ _ h => h
    focus (intro w hSw; (try dsimp only at hSw); go_simp; try with_reducible rfl)
    (try simp only [Act.put, List.setIfInBounds_toArray, List.set_cons_zero, List.set_cons_succ])
    refine wpAnyH_take (i := 4) (oi := ?_) (v := ?_) (by simp only [List.getElem?_toArray, List.getElem?_cons_succ, List.getElem?_cons_zero]; rfl) (by kernel_rfl) (by kernel_rfl) (by kernel_rfl) ?_ (Or.inl ⟨by rfl, ?_⟩) hHeld ?_
    rotate_left 1
    focus exact CutPost.panic fun _ _ _ h => h
    focus (intro w hSw; (try dsimp only at hSw); go_simp; try with_reducible rfl)
    (try simp only [Act.put, List.setIfInBounds_toArray, List.set_cons_zero, List.set_cons_succ])
    refine wpAnyH_take (i := 5) (oi := ?_) (v := ?_) (by simp only [List.getElem?_toArray, List.getElem?_cons_succ, List.getElem?_cons_zero]; rfl) (by kernel_rfl) (by kernel_rfl) (by kernel_rfl) ?_ (Or.inl ⟨by rfl, ?_⟩) hHeld ?_
    rotate_left 1
    focus exact CutPost.panic fun _ _ _ h => h
    focus (intro w hSw; (try dsimp only at hSw); go_simp; try with_reducible rfl)
    (try simp only [Act.put, List.setIfInBounds_toArray, List.set_cons_zero, List.set_cons_succ])
    refine wpAnyH_take (i := 6) (oi := ?_) (v := ?_) (by simp only [List.getElem?_toArray, List.getElem?_cons_succ, List.getElem?_cons_zero]; rfl) (by kernel_rfl) (by kernel_rfl) (by kernel_rfl) ?_ (Or.inl ⟨by rfl, ?_⟩) hHeld ?_
    rotate_left 1
    focus exact CutPost.panic fun _ _ _ h => h
    focus (intro w hSw; (try dsimp only at hSw); go_simp; try with_reducible rfl)
    (try simp only [Act.put, List.setIfInBounds_toArray, List.set_cons_zero, List.set_cons_succ])
    refine wpAnyH_take (i := 7) (oi := ?_) (v := ?_) (by simp only [List.getElem?_toArray, List.getElem?_cons_succ, List.getElem?_cons_zero]; rfl) (by kernel_rfl) (by kernel_rfl) (by kernel_rfl) ?_ (Or.inl ⟨by rfl, ?_⟩) hHeld ?_
    rotate_left 1
    focus exact CutPost.panic fun _ _ _ h => h
    focus (intro w hSw; (try dsimp only at hSw); go_simp; try with_reducible rfl)
    (try simp only [Act.put, List.setIfInBounds_toArray, List.set_cons_zero, List.set_cons_succ])
    refine wpAnyH_take (i := 8) (oi := ?_) (v := ?_) (by simp only [List.getElem?_toArray, List.getElem?_cons_succ, List.getElem?_cons_zero]; rfl) (by kernel_rfl) (by kernel_rfl) (by kernel_rfl) ?_ (Or.inl ⟨by rfl, ?_⟩) hHeld ?_
    rotate_left 1
    focus exact CutPost.panic fun _ _ _ h => h
    focus (intro w hSw; (try dsimp only at hSw); go_simp; try with_reducible rfl)
    (try simp only [Act.put, List.setIfInBounds_toArray, List.set_cons_zero, List.set_cons_succ])
    refine wpAnyH_done (by kernel_rfl) ?_ _
    refine CutPost.step (o := ?_) (by simp only [List.getElem?_toArray, List.getElem?_cons_succ, List.getElem?_cons_zero]; rfl) (fun K hK => ?_)
    go_simp
    refine hK _ _ ?_
    clear hK K
    (try simp only [Act.put, List.setIfInBounds_toArray, List.set_cons_zero, List.set_cons_succ])
    obtain ⟨V, hV⟩ : ∃ V, V = (u.setCell ⟨q, 1, none⟩ (.int .i64 (k - ea))).drew := ⟨_, rfl⟩
    have HV := Lib.hid (show BkO V lo q ss (k - ea) ds by rw [hV]; exact (HU.out.setk (k - ea)).below (Below.refl _ _).drew)
    have EV := Lib.hid (show V.heap[w.heap.size]? = some (Obj.cells #[.int .i64 id, .int .i64 day, .int .i64 3, .string item, .int .i64 eq, .int .i64 ea, .int .i64 er] 44 (0, 0)) by rw [hV]; exact (Keeps.setq (j := 1) (u := .int .i64 (k - ea)) hqb) _ _ _ (.inl rfl) EU.out)
    have BV := Lib.hid (show Below lo w V by rw [hV]; exact ((B0.out.trans (BU.out.mono zW)).setCell (p := ⟨q, 1, none⟩) hlq (.int .i64 (k - ea))).drew)
    have BVz : lo ≤ V.heap.size := Nat.le_trans hlo BV.out.size
    rw [← hV]
    clear hV hqb qf q1 c5 HU EU BU HB E b0
    have ec := evCells (e := ⟨id, day, 3, item, eq, ea, er⟩) EV.out; obtain ⟨c0, c1, c2, c3, c4, c5, c6⟩ := ec; simp only at c0 c1 c2 c3 c4 c5 c6
    cases hr : recvOk ss item eq ea
    · have HR := Lib.hid hr; clear hr
      have R := Lib.hid (show (bookMake ⟨ss, k, ds⟩ ⟨id, day, 3, item, eq, ea, er⟩).1 = 3 by simp [bookMake, show ¬ k < ea from by have := HK.out; omega, HR.out])
      go_wp2_with fail
      refine (implReceiveBk lo q ss ((k - ea)) ds ⟨id, day, 3, item, eq, ea, er⟩ _ HV.out BVz hss).mono ?_; rw [HR.out]; rintro r w1 ⟨rfl, _, hb1, _⟩
      have B1 := Lib.hid (BV.out.trans hb1)
      go_wp2_with fail
      go_ret
      rw [R.out]
      exact ⟨rfl, (fun h => by cases h), B1.out⟩
    · have HR := Lib.hid hr; clear hr
      go_wp2_with fail
      refine (implReceiveBk lo q ss ((k - ea)) ds ⟨id, day, 3, item, eq, ea, er⟩ _ HV.out BVz hss).mono ?_; rw [HR.out]; rintro r w1 ⟨rfl, h1, hb1, hk1⟩
      have H1 := Lib.hid (h1 rfl); have E1 := Lib.hid (hk1 _ _ _ (.inl rfl) EV.out); have B1 := Lib.hid (BV.out.trans hb1); have B1z : lo ≤ w1.heap.size := Nat.le_trans BVz hb1.size
      clear h1 hb1 hk1
      have ec := evCells (e := ⟨id, day, 3, item, eq, ea, er⟩) E1.out; obtain ⟨c0, c1, c2, c3, c4, c5, c6⟩ := ec; simp only at c0 c1 c2 c3 c4 c5 c6
      cases hp : bkPostOk ds day (makeE ⟨id, day, 3, item, eq, ea, er⟩)
      · have HP := Lib.hid hp; clear hp
        have R := Lib.hid (show (bookMake ⟨ss, k, ds⟩ ⟨id, day, 3, item, eq, ea, er⟩).1 = 3 by simp [bookMake, show ¬ k < ea from by have := HK.out; omega, HR.out, postB, HP.out])
        go_wp2_with fail
        refine (implPostBk lo q (recvSs ss item eq ea id) ((k - ea)) ds day _ 2 2 (makeE ⟨id, day, 3, item, eq, ea, er⟩) _ (H1.out.below (below_box _ _)) (Nat.le_trans B1z (below_box _ _).size) OK.out hdn (RS_new (by rfl)) (by omega) (makeE_small _)).mono ?_; rw [HP.out]; rintro r w5 ⟨rfl, h5, g5⟩
        have B5 := Lib.hid (B1.out.trans ((below_box _ _).mono B1z |>.trans (below_grownq g5 (Nat.le_trans B1z (below_box _ _).size) hlq)))
        clear h5 g5
        go_wp2_with fail
        go_ret
        rw [R.out]
        exact ⟨rfl, (fun h => by cases h), B5.out⟩
      · have HP := Lib.hid hp; clear hp
        have R := Lib.hid (show bookMake ⟨ss, k, ds⟩ ⟨id, day, 3, item, eq, ea, er⟩ = (0, ⟨recvSs ss item eq ea id, (k - ea), bkPostDs ds day (makeE ⟨id, day, 3, item, eq, ea, er⟩)⟩) by simp [bookMake, show ¬ k < ea from by have := HK.out; omega, HR.out, postB, HP.out])
        go_wp2_with fail
        refine (implPostBk lo q (recvSs ss item eq ea id) ((k - ea)) ds day _ 2 2 (makeE ⟨id, day, 3, item, eq, ea, er⟩) _ (H1.out.below (below_box _ _)) (Nat.le_trans B1z (below_box _ _).size) OK.out hdn (RS_new (by rfl)) (by omega) (makeE_small _)).mono ?_; rw [HP.out]; rintro r w5 ⟨rfl, h5, g5⟩
        have B5 := Lib.hid (B1.out.trans ((below_box _ _).mono B1z |>.trans (below_grownq g5 (Nat.le_trans B1z (below_box _ _).size) hlq)))
        have H5 := Lib.hid (h5 rfl)
        clear h5 g5
        go_wp2_with fail
        go_ret
        rw [R.out]
        exact ⟨rfl, fun _ => H5.out, B5.out⟩
set_option maxRecDepth 100000 in
set_option maxHeartbeats 8000000 in
theorem implBookSell (lo q : Nat) (b : Bk) (e : Ev) (w : World) (h : BkO w lo q b.ss b.k b.ds) (hlo : lo ≤ w.heap.size) (hss : shsOk b.ss = true) (hok : docsSmall b.ds) (hdn : b.ds.length ≤ 1048576) (hwk : 0 ≤ b.k ∧ b.k ≤ 1000000000) (hk : e.kind = 4) (ha1 : 1 ≤ e.a) (ha2 : e.a ≤ 100000) :
    Calls Try.prog 60 #[.pointer (some ⟨q, 0, none⟩), evAgg e] w fun r w' => r = .returned (.int .i64 (bookSell b e).1) ∧ ((bookSell b e).1 = 0 → BkO w' lo q (bookSell b e).2.ss (bookSell b e).2.k (bookSell b e).2.ds) ∧ Below lo w w' := by
  obtain ⟨ss, k, ds⟩ := b
  simp only at h hss hok hdn hwk
  obtain ⟨hwk1, hwk2⟩ := hwk
  obtain ⟨id, day, kind, item, eq, ea, er⟩ := e
  simp only at hk ha1 ha2
  subst hk
  obtain ⟨qk, qf, hlq, hqs, cs, hqb⟩ := h.work
  have b0 := Lib.hid (below_box w (Obj.cells #[.int .i64 id, .int .i64 day, .int .i64 4, .string item, .int .i64 eq, .int .i64 ea, .int .i64 er] 44))
  have E := Lib.hid (blk_new1 w (Obj.cells #[.int .i64 id, .int .i64 day, .int .i64 4, .string item, .int .i64 eq, .int .i64 ea, .int .i64 er] 44))
  have HB := Lib.hid (h.below b0.out)
  have OK := Lib.hid hok
  have zW : lo ≤ (w.alloc (Obj.cells #[.int .i64 id, .int .i64 day, .int .i64 4, .string item, .int .i64 eq, .int .i64 ea, .int .i64 er] 44)).heap.size := Nat.le_trans hlo b0.out.size
  clear h qk qf hqb cs hok
  have B0 := Lib.hid (b0.out.mono hlo); have B0z := zW
  cases ho : issOk ss item eq
  · have HO := Lib.hid ho; clear ho
    have R := Lib.hid (show (bookSell ⟨ss, k, ds⟩ ⟨id, day, 4, item, eq, ea, er⟩).1 = 2 by simp [bookSell, HO.out])
    go_enter Try.func60, Try.ntmps60
    go_wp2_with fail
    refine (implIssueBk lo q ss k ds ⟨id, day, 4, item, eq, ea, er⟩ _ HB.out B0z hss).mono ?_; rw [HO.out]; rintro r w1 ⟨c, rfl, _, hb1, _⟩
    have B1 := Lib.hid (B0.out.trans hb1)
    go_wp2_with fail
    go_ret
    rw [R.out]
    exact ⟨rfl, (fun h => by cases h), B1.out⟩
  · have HO := Lib.hid ho; clear ho
    go_enter Try.func60, Try.ntmps60
    go_wp2_with fail
    refine (implIssueBk lo q ss k ds ⟨id, day, 4, item, eq, ea, er⟩ _ HB.out B0z hss).mono ?_; rw [HO.out]; rintro r w1 ⟨c, rfl, hx1, hb1, hk1⟩
    obtain ⟨hc, h1⟩ := hx1 rfl
    clear hx1
    simp only at hc h1
    have c1 : 0 ≤ c := by rw [hc]; exact (issueCost_bd24 _ _).1
    have c2 : c ≤ 24000000000 := by rw [hc]; exact (issueCost_bd24 _ _).2
    have HC := Lib.hid hc; clear hc
    have H1 := Lib.hid h1; have E1 := Lib.hid (hk1 _ _ _ (.inl rfl) E.out); have B1 := Lib.hid (B0.out.trans hb1); have B1z : lo ≤ w1.heap.size := Nat.le_trans B0z hb1.size
    clear h1 hb1 hk1
    have ec := evCells (e := ⟨id, day, 4, item, eq, ea, er⟩) E1.out; obtain ⟨c0, c1, c2, c3, c4, c5, c6⟩ := ec; simp only at c0 c1 c2 c3 c4 c5 c6
    cases hp : bkPostOk ds day (sellE ⟨id, day, 4, item, eq, ea, er⟩ c)
    · have HP := Lib.hid hp; clear hp
      have R := Lib.hid (show (bookSell ⟨ss, k, ds⟩ ⟨id, day, 4, item, eq, ea, er⟩).1 = 3 by simp [bookSell, HO.out, ← HC.out, postB, HP.out])
      go_wp2_with fail
      refine (implPostBk lo q (issSs ss item eq) (k) ds day _ 4 4 (sellE ⟨id, day, 4, item, eq, ea, er⟩ c) _ (H1.out.below (below_box _ _)) (Nat.le_trans B1z (below_box _ _).size) OK.out hdn (RS_new (by rfl)) (by omega) (sellE_small _ _)).mono ?_; rw [HP.out]; rintro r w5 ⟨rfl, h5, g5⟩
      have B5 := Lib.hid (B1.out.trans ((below_box _ _).mono B1z |>.trans (below_grownq g5 (Nat.le_trans B1z (below_box _ _).size) hlq)))
      clear h5 g5
      go_wp2_with fail
      go_ret
      rw [R.out]
      exact ⟨rfl, (fun h => by cases h), B5.out⟩
    · have HP := Lib.hid hp; clear hp
      have R := Lib.hid (show bookSell ⟨ss, k, ds⟩ ⟨id, day, 4, item, eq, ea, er⟩ = (0, ⟨issSs ss item eq, k, bkPostDs ds day (sellE ⟨id, day, 4, item, eq, ea, er⟩ c)⟩) by simp [bookSell, HO.out, ← HC.out, postB, HP.out])
      go_wp2_with fail
      refine (implPostBk lo q (issSs ss item eq) (k) ds day _ 4 4 (sellE ⟨id, day, 4, item, eq, ea, er⟩ c) _ (H1.out.below (below_box _ _)) (Nat.le_trans B1z (below_box _ _).size) OK.out hdn (RS_new (by rfl)) (by omega) (sellE_small _ _)).mono ?_; rw [HP.out]; rintro r w5 ⟨rfl, h5, g5⟩
      have B5 := Lib.hid (B1.out.trans ((below_box _ _).mono B1z |>.trans (below_grownq g5 (Nat.le_trans B1z (below_box _ _).size) hlq)))
      have H5 := Lib.hid (h5 rfl)
      clear h5 g5
      go_wp2_with fail
      go_ret
      rw [R.out]
      exact ⟨rfl, fun _ => H5.out, B5.out⟩
set_option maxRecDepth 100000 in
set_option maxHeartbeats 8000000 in
theorem implBookIss (lo q : Nat) (b : Bk) (e : Ev) (w : World) (h : BkO w lo q b.ss b.k b.ds) (hlo : lo ≤ w.heap.size) (hss : shsOk b.ss = true) (hok : docsSmall b.ds) (hdn : b.ds.length ≤ 1048576) (hwk : 0 ≤ b.k ∧ b.k ≤ 1000000000) (hk : e.kind = 2) (ha : e.a = 0) :
    Calls Try.prog 60 #[.pointer (some ⟨q, 0, none⟩), evAgg e] w fun r w' => r = .returned (.int .i64 (bookIss b e).1) ∧ ((bookIss b e).1 = 0 → BkO w' lo q (bookIss b e).2.ss (bookIss b e).2.k (bookIss b e).2.ds) ∧ Below lo w w' := by
  obtain ⟨ss, k, ds⟩ := b
  simp only at h hss hok hdn hwk
  obtain ⟨hwk1, hwk2⟩ := hwk
  obtain ⟨id, day, kind, item, eq, ea, er⟩ := e
  simp only at hk ha
  subst hk
  obtain ⟨qk, qf, hlq, hqs, cs, hqb⟩ := h.work
  have b0 := Lib.hid (below_box w (Obj.cells #[.int .i64 id, .int .i64 day, .int .i64 2, .string item, .int .i64 eq, .int .i64 ea, .int .i64 er] 44))
  have E := Lib.hid (blk_new1 w (Obj.cells #[.int .i64 id, .int .i64 day, .int .i64 2, .string item, .int .i64 eq, .int .i64 ea, .int .i64 er] 44))
  have HB := Lib.hid (h.below b0.out)
  have OK := Lib.hid hok
  have zW : lo ≤ (w.alloc (Obj.cells #[.int .i64 id, .int .i64 day, .int .i64 2, .string item, .int .i64 eq, .int .i64 ea, .int .i64 er] 44)).heap.size := Nat.le_trans hlo b0.out.size
  clear h qk qf hqb cs hok
  clear ha
  have B0 := Lib.hid (b0.out.mono hlo); have B0z := zW
  cases ho : issOk ss item eq
  · have HO := Lib.hid ho; clear ho
    have R := Lib.hid (show (bookIss ⟨ss, k, ds⟩ ⟨id, day, 2, item, eq, ea, er⟩).1 = 2 by simp [bookIss, HO.out])
    go_enter Try.func60, Try.ntmps60
    go_wp2_with fail
    refine (implIssueBk lo q ss k ds ⟨id, day, 2, item, eq, ea, er⟩ _ HB.out B0z hss).mono ?_; rw [HO.out]; rintro r w1 ⟨c, rfl, _, hb1, _⟩
    have B1 := Lib.hid (B0.out.trans hb1)
    go_wp2_with fail
    go_ret
    rw [R.out]
    exact ⟨rfl, (fun h => by cases h), B1.out⟩
  · have HO := Lib.hid ho; clear ho
    go_enter Try.func60, Try.ntmps60
    go_wp2_with fail
    refine (implIssueBk lo q ss k ds ⟨id, day, 2, item, eq, ea, er⟩ _ HB.out B0z hss).mono ?_; rw [HO.out]; rintro r w1 ⟨c, rfl, hx1, hb1, hk1⟩
    obtain ⟨hc, h1⟩ := hx1 rfl
    clear hx1
    simp only at hc h1
    have c1 : 0 ≤ c := by rw [hc]; exact (issueCost_bd24 _ _).1
    have c2 : c ≤ 24000000000 := by rw [hc]; exact (issueCost_bd24 _ _).2
    have HC := Lib.hid hc; clear hc
    have H1 := Lib.hid h1; have E1 := Lib.hid (hk1 _ _ _ (.inl rfl) E.out); have B1 := Lib.hid (B0.out.trans hb1); have B1z : lo ≤ w1.heap.size := Nat.le_trans B0z hb1.size
    clear h1 hb1 hk1
    obtain ⟨q1, qf, _, qs, cs, hqb⟩ := H1.out.work
    have wk : IntKind.i64.wrap (k + c) = k + c := IntWalk.i64_in _ (by omega)
    have k2 := (evCells (e := ⟨id, day, 2, item, eq, ea, er⟩) E1.out).2.2.1
    simp only at k2
    go_upto_region 18 with fail
    obtain ⟨V, hV⟩ : ∃ V, V = w1.setCell ⟨q, 1, none⟩ (.int .i64 (k + c)) := ⟨_, rfl⟩
    have EV := Lib.hid (show V.heap[w.heap.size]? = some (Obj.cells #[.int .i64 id, .int .i64 day, .int .i64 2, .string item, .int .i64 eq, .int .i64 ea, .int .i64 er] 44 (0, 0)) by rw [hV]; exact (Keeps.setq (j := 1) (u := .int .i64 (k + c)) hqb) _ _ _ (.inl rfl) E1.out)
    have HV := Lib.hid (show BkO V lo q (issSs ss item eq) (k + c) ds by rw [hV]; exact H1.out.setk (k + c))
    have BV := Lib.hid (show Below lo w V by rw [hV]; exact B1.out.setCell (p := ⟨q, 1, none⟩) hlq (.int .i64 (k + c)))
    have BVz : lo ≤ V.heap.size := Nat.le_trans hlo BV.out.size
    rw [← hV]
    clear hV q1 qf cs hqb k2
    have ec := evCells (e := ⟨id, day, 2, item, eq, ea, er⟩) EV.out; obtain ⟨c0, c1, c2, c3, c4, c5, c6⟩ := ec; simp only at c0 c1 c2 c3 c4 c5 c6
    cases hp : bkPostOk ds day (issE c)
    · have HP := Lib.hid hp; clear hp
      have R := Lib.hid (show (bookIss ⟨ss, k, ds⟩ ⟨id, day, 2, item, eq, ea, er⟩).1 = 3 by
        simp only [bookIss, HO.out, ← HC.out, if_true]
        split
        · rfl
        · simp [postB, HP.out])
      go_wp2_with fail
      refine (implPostBk lo q (issSs ss item eq) (k + c) ds day _ 2 2 (issE c) _ (HV.out.below (below_box _ _)) (Nat.le_trans BVz (below_box _ _).size) OK.out hdn (RS_new (by rfl)) (by omega) (issE_small _)).mono ?_; rw [HP.out]; rintro r w5 ⟨rfl, h5, g5⟩
      have B5 := Lib.hid (BV.out.trans ((below_box _ _).mono BVz |>.trans (below_grownq g5 (Nat.le_trans BVz (below_box _ _).size) hlq)))
      clear h5 g5
      go_wp2_with fail
      go_ret
      rw [R.out]
      exact ⟨rfl, (fun h => by cases h), B5.out⟩
    · have HP := Lib.hid hp; clear hp
      by_cases hm : (1000000000 : Int) < k + c
      · have R := Lib.hid (show (bookIss ⟨ss, k, ds⟩ ⟨id, day, 2, item, eq, ea, er⟩).1 = 3 by
          simp only [bookIss, HO.out, ← HC.out, if_true]
          rw [if_pos hm])
        go_wp2_with fail
        refine (implPostBk lo q (issSs ss item eq) (k + c) ds day _ 2 2 (issE c) _ (HV.out.below (below_box _ _)) (Nat.le_trans BVz (below_box _ _).size) OK.out hdn (RS_new (by rfl)) (by omega) (issE_small _)).mono ?_; rw [HP.out]; rintro r w5 ⟨rfl, h5, g5⟩
        have B5 := Lib.hid (BV.out.trans ((below_box _ _).mono BVz |>.trans (below_grownq g5 (Nat.le_trans BVz (below_box _ _).size) hlq)))
        have q5 := (h5 rfl).work.1
        have hmb : decide (k + c ≤ 1000000000) = false := decide_eq_false (by omega)
        clear h5 g5
        go_wp2_with fail
        go_ret
        rw [R.out]
        exact ⟨rfl, (fun h => by cases h), B5.out⟩
      · have R := Lib.hid (show bookIss ⟨ss, k, ds⟩ ⟨id, day, 2, item, eq, ea, er⟩ = (0, ⟨issSs ss item eq, k + c, bkPostDs ds day (issE c)⟩) by
          simp only [bookIss, HO.out, ← HC.out, if_true]
          rw [if_neg hm]
          simp [postB, HP.out])
        go_wp2_with fail
        refine (implPostBk lo q (issSs ss item eq) (k + c) ds day _ 2 2 (issE c) _ (HV.out.below (below_box _ _)) (Nat.le_trans BVz (below_box _ _).size) OK.out hdn (RS_new (by rfl)) (by omega) (issE_small _)).mono ?_; rw [HP.out]; rintro r w5 ⟨rfl, h5, g5⟩
        have B5 := Lib.hid (BV.out.trans ((below_box _ _).mono BVz |>.trans (below_grownq g5 (Nat.le_trans BVz (below_box _ _).size) hlq)))
        have H5 := Lib.hid (h5 rfl)
        have q5 := H5.out.work.1
        have hmb : decide (k + c ≤ 1000000000) = true := decide_eq_true (by omega)
        clear h5 g5
        go_wp2_with fail
        go_ret
        rw [R.out]
        exact ⟨rfl, fun _ => H5.out, B5.out⟩
set_option maxRecDepth 100000 in
set_option maxHeartbeats 8000000 in
theorem implBookLate (lo q : Nat) (b : Bk) (e : Ev) (w : World) (h : BkO w lo q b.ss b.k b.ds) (hlo : lo ≤ w.heap.size) (hss : shsOk b.ss = true) (hok : docsSmall b.ds) (hdn : b.ds.length ≤ 1048576) (hwk : 0 ≤ b.k ∧ b.k ≤ 1000000000) (hk : e.kind = 5) (ha1 : -100000 ≤ e.a) (ha2 : e.a ≤ 100000) :
    Calls Try.prog 60 #[.pointer (some ⟨q, 0, none⟩), evAgg e] w fun r w' => r = .returned (.int .i64 (bookLate b e).1) ∧ ((bookLate b e).1 = 0 → BkO w' lo q (bookLate b e).2.ss (bookLate b e).2.k (bookLate b e).2.ds) ∧ Below lo w w' := by
  obtain ⟨ss, k, ds⟩ := b
  simp only at h hss hok hdn hwk
  obtain ⟨hwk1, hwk2⟩ := hwk
  obtain ⟨id, day, kind, item, eq, ea, er⟩ := e
  simp only at hk ha1 ha2
  subst hk
  obtain ⟨qk, qf, hlq, hqs, cs, hqb⟩ := h.work
  have b0 := Lib.hid (below_box w (Obj.cells #[.int .i64 id, .int .i64 day, .int .i64 5, .string item, .int .i64 eq, .int .i64 ea, .int .i64 er] 44))
  have E := Lib.hid (blk_new1 w (Obj.cells #[.int .i64 id, .int .i64 day, .int .i64 5, .string item, .int .i64 eq, .int .i64 ea, .int .i64 er] 44))
  have HB := Lib.hid (h.below b0.out)
  have OK := Lib.hid hok
  have zW : lo ≤ (w.alloc (Obj.cells #[.int .i64 id, .int .i64 day, .int .i64 5, .string item, .int .i64 eq, .int .i64 ea, .int .i64 er] 44)).heap.size := Nat.le_trans hlo b0.out.size
  clear h qk qf hqb cs hok
  have B0 := Lib.hid (b0.out.mono hlo); have B0z := zW
  by_cases ho : lateCode ss item er ea = 0
  · have HO := Lib.hid ho; clear ho
    go_enter Try.func60, Try.ntmps60
    go_wp2_with fail
    refine (implLateBk lo q ss k ds ⟨id, day, 5, item, eq, ea, er⟩ _ HB.out B0z hss).mono ?_; simp only; rw [HO.out]; rintro r w1 ⟨c, rfl, hx1, hb1, hk1⟩
    obtain ⟨hc, h1⟩ := hx1 rfl
    clear hx1
    have c1' : -24000000000 ≤ c := by rw [hc]; exact (lateGone_bd _ _ _).1
    have c2' : c ≤ 24000000000 := by rw [hc]; exact (lateGone_bd _ _ _).2
    have HC := Lib.hid hc; clear hc
    have H1 := Lib.hid h1; have E1 := Lib.hid (hk1 _ _ _ (.inl rfl) E.out); have B1 := Lib.hid (B0.out.trans hb1); have B1z : lo ≤ w1.heap.size := Nat.le_trans B0z hb1.size
    clear h1 hb1 hk1
    have wk : IntKind.i64.wrap (ea - c) = ea - c := IntWalk.i64_in _ (by omega)
    have ec := evCells (e := ⟨id, day, 5, item, eq, ea, er⟩) E1.out; obtain ⟨c0, c1, c2, c3, c4, c5, c6⟩ := ec; simp only at c0 c1 c2 c3 c4 c5 c6
    cases hp : bkPostOk ds day (lateE ⟨id, day, 5, item, eq, ea, er⟩ c)
    · have HP := Lib.hid hp; clear hp
      have R := Lib.hid (show (bookLate ⟨ss, k, ds⟩ ⟨id, day, 5, item, eq, ea, er⟩).1 = 3 by simp [bookLate, HO.out, ← HC.out, postB, HP.out])
      go_wp2_with fail
      refine (implPostBk lo q (lateSs ss item er ea) (k) ds day _ 3 3 (lateE ⟨id, day, 5, item, eq, ea, er⟩ c) _ (H1.out.below (below_box _ _)) (Nat.le_trans B1z (below_box _ _).size) OK.out hdn (RS_new (by rfl)) (by omega) (lateE_small _ _)).mono ?_; rw [HP.out]; rintro r w5 ⟨rfl, h5, g5⟩
      have B5 := Lib.hid (B1.out.trans ((below_box _ _).mono B1z |>.trans (below_grownq g5 (Nat.le_trans B1z (below_box _ _).size) hlq)))
      clear h5 g5
      go_wp2_with fail
      go_ret
      rw [R.out]
      exact ⟨rfl, (fun h => by cases h), B5.out⟩
    · have HP := Lib.hid hp; clear hp
      have R := Lib.hid (show bookLate ⟨ss, k, ds⟩ ⟨id, day, 5, item, eq, ea, er⟩ = (0, ⟨lateSs ss item er ea, k, bkPostDs ds day (lateE ⟨id, day, 5, item, eq, ea, er⟩ c)⟩) by simp [bookLate, HO.out, ← HC.out, postB, HP.out])
      go_wp2_with fail
      refine (implPostBk lo q (lateSs ss item er ea) (k) ds day _ 3 3 (lateE ⟨id, day, 5, item, eq, ea, er⟩ c) _ (H1.out.below (below_box _ _)) (Nat.le_trans B1z (below_box _ _).size) OK.out hdn (RS_new (by rfl)) (by omega) (lateE_small _ _)).mono ?_; rw [HP.out]; rintro r w5 ⟨rfl, h5, g5⟩
      have B5 := Lib.hid (B1.out.trans ((below_box _ _).mono B1z |>.trans (below_grownq g5 (Nat.le_trans B1z (below_box _ _).size) hlq)))
      have H5 := Lib.hid (h5 rfl)
      clear h5 g5
      go_wp2_with fail
      go_ret
      rw [R.out]
      exact ⟨rfl, fun _ => H5.out, B5.out⟩
  · obtain ⟨lc, hlc⟩ : ∃ lc, lc = lateCode ss item er ea := ⟨_, rfl⟩
    rw [← hlc] at ho
    have R := Lib.hid (show (bookLate ⟨ss, k, ds⟩ ⟨id, day, 5, item, eq, ea, er⟩).1 = lc by simp [bookLate, ← hlc, ho])
    have HL := Lib.hid hlc; clear hlc
    go_enter Try.func60, Try.ntmps60
    go_wp2_with fail
    refine (implLateBk lo q ss k ds ⟨id, day, 5, item, eq, ea, er⟩ _ HB.out B0z hss).mono ?_; simp only; rw [← HL.out]; rintro r w1 ⟨c, rfl, _, hb1, _⟩
    have B1 := Lib.hid (B0.out.trans hb1)
    go_wp2_with fail
    go_ret
    rw [R.out]
    exact ⟨rfl, (fun h => absurd h ho), B1.out⟩
theorem implBookBk (lo q : Nat) (b : Bk) (e : Ev) (w : World) (h : BkO w lo q b.ss b.k b.ds) (hlo : lo ≤ w.heap.size) (ha : areBk b.ss b.k b.ds = true) (he : isEvent e = true) (hok : docsSmall b.ds) :
    Calls Try.prog 60 #[.pointer (some ⟨q, 0, none⟩), evAgg e] w fun r w' => r = .returned (.int .i64 (bookB b e).1) ∧ ((bookB b e).1 = 0 → BkO w' lo q (bookB b e).2.ss (bookB b e).2.k (bookB b e).2.ds) ∧ Below lo w w' := by
  have hss := areBk_shs ha
  have hwk : 0 ≤ b.k ∧ b.k ≤ 1000000000 := by simp only [areBk, Bool.and_eq_true] at ha; exact inB_true.1 ha.2.2.1
  have hdn : b.ds.length ≤ 1048576 := by simp only [areBk, Bool.and_eq_true] at ha; have := (areDocs_true ha.2.2.2).1; omega
  rcases isEvent_ways he with ⟨hk, h1, h2⟩ | ⟨hk, h1, h2⟩ | ⟨hk, h1⟩ | ⟨hk, h1, h2⟩ | ⟨hk, h1, h2⟩
  · rw [show bookB b e = bookBuy b e by simp [bookB, hk]]; exact implBookBuy lo q b e w h hlo hss hok hdn hwk hk h1 h2
  · rw [show bookB b e = bookMake b e by simp [bookB, hk]]; exact implBookMake lo q b e w h hlo hss hok hdn hwk hk h1 h2
  · rw [show bookB b e = bookIss b e by simp [bookB, hk]]; exact implBookIss lo q b e w h hlo hss hok hdn hwk hk h1
  · rw [show bookB b e = bookSell b e by simp [bookB, hk]]; exact implBookSell lo q b e w h hlo hss hok hdn hwk hk h1 h2
  · rw [show bookB b e = bookLate b e by simp [bookB, hk]]; exact implBookLate lo q b e w h hlo hss hok hdn hwk hk h1 h2
end Go.Proofs.Ytlgodbjbllpipaa
