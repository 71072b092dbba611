/- The walk of l36Receive. No condition. -/
import Derived.Test.YtlgodbjbllpipaaBkRecv
import Derived.Deep.DeepCutAuto
namespace Go.Proofs.Ytlgodbjbllpipaa
open Go.ChangeShapes Go.WideShapes Go.ChangeAt Go.RowKit

theorem Keeps.fresh {q : Nat} {w w' : World} (h : Keeps (some q) w w') (hq : w.heap.size ≤ q) : Keeps none w w' := fun k cs t ht hk => h k cs t (ht.imp id fun x => ⟨x.1, fun e => by
  injection e with e
  have := (Array.getElem?_eq_some_iff.1 hk).1
  omega⟩) hk
theorem Keeps.fresh3 {q : Nat} {w w1 w' : World} (h : Keeps (some q) w w1) (hq : w.heap.size ≤ q) (hb : Below w.heap.size w1 w') : Keeps none w w' := fun k cs t ht hk => by
  rw [hb.block k (Array.getElem?_eq_some_iff.1 hk).1]
  exact h.fresh hq k cs t ht hk
set_option maxRecDepth 100000 in
set_option maxHeartbeats 8000000 in
theorem specReceiveBk (lo hi2 : Nat) (sA : Option Addr) (sn sc : Nat) (k : Int) (dA : Option Addr) (dn dc : Nat) (ss : List Shf) (ds : List Doc) (e : Ev) (w : World) (hbk : BooksO w lo hi2 (.slice sA sn sc) sn ss (.slice dA dn dc) dn ds) (hlo : lo ≤ w.heap.size) (hss : shsOk ss = true) :
    Calls Try.prog 79 #[.agg #[.slice sA sn sc, .int .i64 k, .slice dA dn dc], evAgg e] w fun r w' => ∃ A n c D m d, r = .returned (.tuple #[.agg #[.slice A n c, .int .i64 k, .slice D m d], .int .i64 (okCode (recvOk ss e.item e.q e.a))]) ∧
      (recvOk ss e.item e.q e.a = true → BooksO w' lo w'.heap.size (.slice A n c) n (recvSs ss e.item e.q e.a e.id) (.slice D m d) m ds) ∧ Below lo w w' ∧ Keeps none w w' := by
  obtain ⟨i0, hi, hz0, hz1, hz2⟩ := info_parts shfInfo
  obtain ⟨j0, hi', hz0', hz1', hz2'⟩ := info_parts intInfo
  have hl := Lib.hid hbk.shelves.len
  have n12 : sn ≤ 12 := by rw [← hl.out]; exact shsOk_len hss
  have SG := Lib.hid (shGood_lays hss e.item)
  have b0 := Lib.hid (below_then (below_then (below_box w (Obj.cells #[.slice sA sn sc, .int .i64 k, .slice dA dn dc] 31)) (below_box _ (Obj.cells #[.int .i64 e.id, .int .i64 e.day, .int .i64 e.kind, .string e.item, .int .i64 e.q, .int .i64 e.a, .int .i64 e.r] 44))) (below_box _ (Obj.cells #[.slice none 0 0, .int .i64 0, .slice none 0 0] 31)))
  have Q := Lib.hid (blk_alloc (blk_alloc (blk_new1 w (Obj.cells #[.slice sA sn sc, .int .i64 k, .slice dA dn dc] 31)) (Obj.cells #[.int .i64 e.id, .int .i64 e.day, .int .i64 e.kind, .string e.item, .int .i64 e.q, .int .i64 e.a, .int .i64 e.r] 44)) (Obj.cells #[.slice none 0 0, .int .i64 0, .slice none 0 0] 31))
  have E := Lib.hid (blk_alloc (blk_new2 w (Obj.cells #[.slice sA sn sc, .int .i64 k, .slice dA dn dc] 31) (Obj.cells #[.int .i64 e.id, .int .i64 e.day, .int .i64 e.kind, .string e.item, .int .i64 e.q, .int .i64 e.a, .int .i64 e.r] 44)) (Obj.cells #[.slice none 0 0, .int .i64 0, .slice none 0 0] 31))
  have Z := Lib.hid (blk_new3 w (Obj.cells #[.slice sA sn sc, .int .i64 k, .slice dA dn dc] 31) (Obj.cells #[.int .i64 e.id, .int .i64 e.day, .int .i64 e.kind, .string e.item, .int .i64 e.q, .int .i64 e.a, .int .i64 e.r] 44) (Obj.cells #[.slice none 0 0, .int .i64 0, .slice none 0 0] 31))
  have HB := Lib.hid (hbk.below b0.out)
  clear hbk
  have RW : Hid (recvOk ss e.item e.q e.a = (areLayers (recvL (shGet ss e.item).lays e.q e.a) && decide ((insSs ss e.item).length ≤ 12))) := rfl
  go_enter Try.func79, Try.ntmps79
  go_wp2_with fail
  have WS : (((w.alloc (Obj.cells #[.slice sA sn sc, .int .i64 k, .slice dA dn dc] 31)).alloc (Obj.cells #[.int .i64 e.id, .int .i64 e.day, .int .i64 e.kind, .string e.item, .int .i64 e.q, .int .i64 e.a, .int .i64 e.r] 44)).alloc (Obj.cells #[.slice none 0 0, .int .i64 0, .slice none 0 0] 31)).heap.size = w.heap.size + 1 + 1 + 1 := by simp
  generalize ((w.alloc (Obj.cells #[.slice sA sn sc, .int .i64 k, .slice dA dn dc] 31)).alloc (Obj.cells #[.int .i64 e.id, .int .i64 e.day, .int .i64 e.kind, .string e.item, .int .i64 e.q, .int .i64 e.a, .int .i64 e.r] 44)).alloc (Obj.cells #[.slice none 0 0, .int .i64 0, .slice none 0 0] 31) = W at *
  replace WS := Lib.hid WS
  have q0 := blk_at Q.out (j := 0) rfl; have q1 := blk_at Q.out (j := 1) rfl; have q2 := blk_at Q.out (j := 2) rfl
  have e3 := (evCells E.out).2.2.2.1
  refine (specShelfOf _ _ _ _ _ _ _ ss _ W HB.out.shelves (by omega)).mono ?_; rintro e' w1 ⟨rfl, B1⟩
  have Q1 := Lib.hid (blk_keep B1 Q.out); have E1 := Lib.hid (blk_keep B1 E.out); have Z1 := Lib.hid (blk_keep B1 Z.out)
  have B1 := Lib.hid B1
  clear q0 q1 q2 e3
  go_upto_if 14 with fail
  go_cut [6] (fun s6 wx => ∃ (A : Option Addr) (m mc p : Nat), s6 = .int .i64 p ∧ Hid (insAt ss e.item = p) ∧ p < m ∧ m ≤ 13 ∧ Hid ((insSs ss e.item).length = m) ∧ Hid (wx.heap[w.heap.size]? = some (Obj.cells #[.slice A m mc, .int .i64 k, .slice dA dn dc] 31 (0, 0))) ∧
    Hid (wx.heap[w.heap.size + 1]? = some (Obj.cells #[.int .i64 e.id, .int .i64 e.day, .int .i64 e.kind, .string e.item, .int .i64 e.q, .int .i64 e.a, .int .i64 e.r] 44 (0, 0))) ∧ Hid (wx.heap[w.heap.size + 1 + 1]? = some (Obj.cells #[.slice none 0 0, .int .i64 0, .slice none 0 0] 31 (0, 0))) ∧
    Hid (BooksO wx lo wx.heap.size (.slice A m mc) m (insSs ss e.item) (.slice dA dn dc) dn ds) ∧ Hid (Below lo w wx) ∧ Hid (Keeps (some w.heap.size) w wx))
  case first =>
    rcases shelfAt_cases ss e.item with ⟨h0, _⟩ | ⟨p, x, h0, hx, he, _⟩
    · have H0 := Lib.hid h0; clear h0
      have IL := Lib.hid (show (insSs ss e.item).length = sn + 1 by rw [insSs_len, H0.out, if_pos (by omega), hl.out])
      rw [H0.out]
      have q0 := blk_at Q1.out (j := 0) rfl
      go_wp2_with fail
      clear q0
      go_loopw [6] (fun i wr => ∃ j : Nat, j ≤ sn ∧ i = .int .i64 j ∧ Below w1.heap.size w1 wr ∧ Hid (∀ (i : Nat) (y : Shf), i < j → ss[i]? = some y → txtLess y.item e.item = true)) (fun i _ => sn - (intOf i).toNat)
      case atStart => exact ⟨0, Nat.zero_le _, rfl, Below.refl _ _, fun _ _ h => absurd h (Nat.not_lt_zero _)⟩
      case round =>
        obtain ⟨j, hj, rfl, hbj, hno⟩ := hrel
        have Qj := Lib.hid (blk_keep hbj Q1.out); have Ej := Lib.hid (blk_keep hbj E1.out)
        have q0 := blk_at Qj.out (j := 0) rfl
        have e3 := (evCells Ej.out).2.2.2.1
        have i1 : (0 : Int) ≤ j := by omega
        by_cases hlt : j < sn
        focus
          have i2 : (j : Int) < sn := by omega
          obtain ⟨g, off, rfl, ⟨item, ids, lays⟩, iA, iN, iC, lA, lN, lC, hx, c0, c1, c2, _, _⟩ := ((HB.out.shelves.below B1.out).below hbj).shAt hlt
          simp only at c0
          have HX := Lib.hid hx; clear hx
          cases hless : Op.bytesLess item.toList e.item.toList
          focus
            have CL := Lib.hid (cntLess_at hno.out HX.out hless)
            go_wp2_with fail
            go_quiet (fail)
            go_wp2_with fail
            clear hless i2 c0 c1 c2 HX
            generalize some (⟨g, off, none⟩ : Addr) = sA at *
          rotate_left
          focus
            have SL := Lib.hid (show ∀ (i : Nat) (y : Shf), i < j + 1 → ss[i]? = some y → txtLess y.item e.item = true from fun i y hi hy => by
              rcases Nat.lt_succ_iff_lt_or_eq.1 hi with h' | rfl
              · exact hno.out i y h' hy
              · rw [HX.out] at hy; injection hy with hy; rw [← hy]; exact hless)
            go_wp2_with fail
            go_quiet (fail)
            go_wp2_with fail
            go_roundw
            case rel => first | exact ⟨j + 1, by omega, by go_num, below_drewN hbj nq, SL.out⟩ | ((repeat apply Exists.intro); exact ⟨⟨j + 1, by omega, by go_num, below_drewN hbj nq, SL.out⟩, rfl⟩)
            case measure => simp [intOf]; omega
        rotate_left
        focus
          have CL := Lib.hid (show cntLess ss e.item = j by rw [cntLess_all (fun i y hy => hno.out i y (by have := (List.getElem?_eq_some_iff.1 hy).1; rw [hl.out] at this; omega) hy), hl.out]; omega)
          have i2 : decide ((j : Int) < (sn : Int)) = false := decide_eq_false (by omega)
          go_wp2_with fail
          go_quiet (fail)
          go_wp2_with fail
          clear i2
        all_goals
          have IA := Lib.hid (show insAt ss e.item = j by rw [insAt, H0.out, if_pos (by omega), CL.out])
          have NS := Lib.hid (show insSs ss e.item = ss.take j ++ ⟨e.item, [], []⟩ :: ss.drop j by rw [insSs, H0.out, if_pos (by omega), CL.out])
          clear hlt q0 e3
          have BU := Lib.hid (below_drewN hbj nq)
          generalize wr.drewN nq = u at *
          have QU := Lib.hid (blk_keep BU.out Q1.out); have EU := Lib.hid (blk_keep BU.out E1.out); have ZU := Lib.hid (blk_keep BU.out Z1.out)
          obtain ⟨us, hus, SO⟩ := ((HB.out.below B1.out).below BU.out).top
          obtain ⟨xs, o0, hone, PI⟩ := SO.putIn hj
          have US := Lib.hid hus; have PI' := Lib.hid PI
          clear hus PI SO
          obtain ⟨cap1, cap2⟩ := own_cap o0
          have q0 := blk_at QU.out (j := 0) rfl; have e3 := (evCells EU.out).2.2.2.1
          have jc : (j : Int) ≤ sc := by omega
          have jn : (j : Int) ≤ sn := by omega
          have zu : lo ≤ u.heap.size := by have := BU.out.size; have := B1.out.size; have := WS.out; omega
          have TL := RS.tail o0 hj
          have HD := RS.of_own (own_prefix o0 hj)
          have tone := Lib.hid (show ∀ x ∈ xs.take (j * 3), x.oneCell' = true from fun x hx => hone x (List.mem_of_mem_take hx))
          have E0 := own_empty u.drew u.heap.size 59 3 (Nat.le_refl _)
          have ON := own_new u.drew (base := u.heap.size) (e := 59) (size := 3) (n := 1) #[.string e.item, .slice none 0 0, .slice none 0 0] (Nat.le_refl _) (by unfold maxLen; omega) (by simp)
          refine wp_region_cut (S := fun w' => w'.cell? ⟨w.heap.size, 0, none⟩ = some (.slice sA sn sc) ∧ w'.cell? ⟨w.heap.size + 1, 3, none⟩ = some (.string e.item)) 17 (by kernel_rfl) (by kernel_rfl) (by simp only [List.pop_toArray, List.dropLast_cons_cons, List.dropLast_singleton]; rfl) ⟨q0, e3⟩ (fun hHeld => ?_)
          refine wpAnyH_take (i := 1) (oi := ?_) (v := ?_) (by simp only [List.getElem?_toArray, List.getElem?_cons_succ, List.getElem?_cons_zero]; rfl) (by kernel_rfl) (by kernel_rfl) (by kernel_rfl) ?_ (Or.inl ⟨by rfl, ?_⟩) hHeld ?_
          rotate_left 1
          focus exact CutPost.panic fun _ _ _ h => h
          focus (intro w hSw; (try dsimp only at hSw); go_simp; try with_reducible rfl)
          (try simp only [Act.put, List.setIfInBounds_toArray, List.set_cons_zero, List.set_cons_succ])
          refine wpAnyH_take (i := 2) (oi := ?_) (v := ?_) (by simp only [List.getElem?_toArray, List.getElem?_cons_succ, List.getElem?_cons_zero]; rfl) (by kernel_rfl) (by kernel_rfl) (by kernel_rfl) ?_ (Or.inl ⟨by rfl, ?_⟩) hHeld ?_
          rotate_left 1
          focus exact CutPost.panic fun _ _ _ h => h
          focus (intro w hSw; (try dsimp only at hSw); go_simp; try with_reducible rfl)
          (try simp only [Act.put, List.setIfInBounds_toArray, List.set_cons_zero, List.set_cons_succ])
          refine wpAnyH_take (i := 3) (oi := ?_) (v := ?_) (by simp only [List.getElem?_toArray, List.getElem?_cons_succ, List.getElem?_cons_zero]; rfl) (by kernel_rfl) (by kernel_rfl) (by kernel_rfl) ?_ (Or.inl ⟨by rfl, ?_⟩) hHeld ?_
          rotate_left 1
          focus exact CutPost.panic fun _ _ _ h => h
          focus (intro w hSw; (try dsimp only at hSw); go_simp; try with_reducible rfl)
          (try simp only [Act.put, List.setIfInBounds_toArray, List.set_cons_zero, List.set_cons_succ])
          refine wpAnyH_take (i := 4) (oi := ?_) (v := ?_) (by simp only [List.getElem?_toArray, List.getElem?_cons_succ, List.getElem?_cons_zero]; rfl) (by kernel_rfl) (by kernel_rfl) (by kernel_rfl) ?_ (Or.inl ⟨by rfl, ?_⟩) hHeld ?_
          rotate_left 1
          focus exact CutPost.panic fun _ _ _ h => h
          focus (intro w hSw; (try dsimp only at hSw); go_simp; try with_reducible rfl)
          (try simp only [Act.put, List.setIfInBounds_toArray, List.set_cons_zero, List.set_cons_succ])
          refine wpAnyH_take (i := 6) (oi := ?_) (v := ?_) (by simp only [List.getElem?_toArray, List.getElem?_cons_succ, List.getElem?_cons_zero]; rfl) (by kernel_rfl) (by kernel_rfl) (by kernel_rfl) ?_ (Or.inl ⟨by rfl, ?_⟩) hHeld ?_
          rotate_left 1
          focus exact CutPost.panic fun _ _ _ h => h
          focus (intro w hSw; (try dsimp only at hSw); go_simp; try with_reducible rfl)
          (try simp only [Act.put, List.setIfInBounds_toArray, List.set_cons_zero, List.set_cons_succ])
          refine wpAnyH_take (i := 7) (oi := ?_) (v := ?_) (by simp only [List.getElem?_toArray, List.getElem?_cons_succ, List.getElem?_cons_zero]; rfl) (by kernel_rfl) (by kernel_rfl) (by kernel_rfl) ?_ (Or.inl ⟨by rfl, ?_⟩) hHeld ?_
          rotate_left 1
          focus exact CutPost.panic fun _ _ _ h => h
          focus (intro w hSw; (try dsimp only at hSw); go_simp; try with_reducible rfl)
          (try simp only [Act.put, List.setIfInBounds_toArray, List.set_cons_zero, List.set_cons_succ])
          refine wpAnyH_take (i := 8) (oi := ?_) (v := ?_) (by simp only [List.getElem?_toArray, List.getElem?_cons_succ, List.getElem?_cons_zero]; rfl) (by kernel_rfl) (by kernel_rfl) (by kernel_rfl) ?_ (Or.inl ⟨by rfl, ?_⟩) hHeld ?_
          rotate_left 1
          focus exact CutPost.panic fun _ _ _ h => h
          focus (intro w hSw; (try dsimp only at hSw); go_simp; try with_reducible rfl)
          (try simp only [Act.put, List.setIfInBounds_toArray, List.set_cons_zero, List.set_cons_succ])
          refine wpAnyH_take (i := 11) (oi := ?_) (v := ?_) (by simp only [List.getElem?_toArray, List.getElem?_cons_succ, List.getElem?_cons_zero]; rfl) (by kernel_rfl) (by kernel_rfl) (by kernel_rfl) ?_ (Or.inl ⟨by rfl, ?_⟩) hHeld ?_
          rotate_left 1
          focus exact CutPost.panic fun _ _ _ h => h
          focus (intro w hSw; (try dsimp only at hSw); go_simp; try with_reducible rfl)
          (try simp only [Act.put, List.setIfInBounds_toArray, List.set_cons_zero, List.set_cons_succ])
          refine wpAnyH_take (i := 12) (oi := ?_) (v := ?_) (by simp only [List.getElem?_toArray, List.getElem?_cons_succ, List.getElem?_cons_zero]; rfl) (by kernel_rfl) (by kernel_rfl) (by kernel_rfl) ?_ (Or.inl ⟨by rfl, ?_⟩) hHeld ?_
          rotate_left 1
          focus exact CutPost.panic fun _ _ _ h => h
          focus (intro w hSw; (try dsimp only at hSw); go_simp; try with_reducible rfl)
          (try simp only [Act.put, List.setIfInBounds_toArray, List.set_cons_zero, List.set_cons_succ])
          refine wpAnyH_take (i := 13) (oi := ?_) (v := ?_) (by simp only [List.getElem?_toArray, List.getElem?_cons_succ, List.getElem?_cons_zero]; rfl) (by kernel_rfl) (by kernel_rfl) (by kernel_rfl) ?_ (Or.inl ⟨by rfl, ?_⟩) hHeld ?_
          rotate_left 1
          focus exact CutPost.panic fun _ _ _ h => h
          focus (intro w hSw; (try dsimp only at hSw); go_simp; try with_reducible rfl)
          (try simp only [Act.put, List.setIfInBounds_toArray, List.set_cons_zero, List.set_cons_succ])
          refine wpAnyH_take (i := 14) (oi := ?_) (v := ?_) (by simp only [List.getElem?_toArray, List.getElem?_cons_succ, List.getElem?_cons_zero]; rfl) (by kernel_rfl) (by kernel_rfl) (by kernel_rfl) ?_ (Or.inl ⟨by rfl, ?_⟩) hHeld ?_
          rotate_left 1
          focus exact CutPost.panic fun _ _ _ h => h
          focus (intro w hSw; (try dsimp only at hSw); go_simp; try with_reducible rfl)
          (try simp only [Act.put, List.setIfInBounds_toArray, List.set_cons_zero, List.set_cons_succ])
          refine wpAnyH_ready (rs := [0, 9]) (by kernel_rfl) (by simp) ?_
          refine AllReadyH.cons (o := ?_) (by simp only [List.getElem?_toArray, List.getElem?_cons_zero]; rfl) (fun K hK => ?_) (AllReadyH.cons (o := ?_) (by simp only [List.getElem?_toArray, List.getElem?_cons_succ, List.getElem?_cons_zero]; rfl) (fun K hK => ?_) AllReadyH.nil)
          focus
            go_simp
            refine hK.out _ _ (⟨cell_alloc (show u.drew.cell? _ = _ from q0) _, cell_alloc (show u.drew.cell? _ = _ from e3) _⟩) (fun hHeld => ?_)
            clear hK K
            (try simp only [Act.put, List.setIfInBounds_toArray, List.set_cons_zero, List.set_cons_succ])
            refine wpAnyH_ready (rs := [5, 9]) (by kernel_rfl) (by simp) ?_
            refine AllReadyH.cons (o := ?_) (by simp only [List.getElem?_toArray, List.getElem?_cons_succ, List.getElem?_cons_zero]; rfl) (fun K hK => ?_) (AllReadyH.cons (o := ?_) (by simp only [List.getElem?_toArray, List.getElem?_cons_succ, List.getElem?_cons_zero]; rfl) (fun K hK => ?_) AllReadyH.nil)
            focus
              (refine step_app0 _ (by rfl) _ _ _ (by rfl) u.heap.size 59 i0 _ 3 64 Try.underlying28 hi hz0 hz1 hz2 rfl (by omega) (.slice (some ⟨_, 0, none⟩) 0 0) (by rfl) E0 _ j _ (xs.take (j * 3)) (by rfl) (HD.below ((Below.refl _ _).drew.alloc (Nat.le_refl _) _)) tone.out (by unfold maxLen; omega) (by omega) (by simp <;> omega) ?_; intro A5 c5 w5 o5 g5 at5 b5; have B5 : Hid (Below u.heap.size u w5) := Lib.hid (((Below.refl _ _).drew.alloc (Nat.le_refl _) _).trans b5))
              refine hK.out _ _ (⟨cell_keep B5.out q0, cell_keep B5.out e3⟩) (fun hHeld => ?_)
              clear hK K
              (try simp only [Act.put, List.setIfInBounds_toArray, List.set_cons_zero, List.set_cons_succ])
              refine wpAnyH_ready (rs := [9]) (by kernel_rfl) (by simp) ?_
              refine AllReadyH.cons (o := ?_) (by simp only [List.getElem?_toArray, List.getElem?_cons_succ, List.getElem?_cons_zero]; rfl) (fun K hK => ?_) AllReadyH.nil
              go_simp
              refine hK.out _ _ (⟨cell_alloc (cell_keep B5.out q0) _, cell_alloc (cell_keep B5.out e3) _⟩) (fun hHeld => ?_)
              clear hK K
              (try simp only [Act.put, List.setIfInBounds_toArray, List.set_cons_zero, List.set_cons_succ])
              refine wpAnyH_ready (rs := [10]) (by kernel_rfl) (by simp) ?_
              refine AllReadyH.cons (o := ?_) (by simp only [List.getElem?_toArray, List.getElem?_cons_succ, List.getElem?_cons_zero]; rfl) (fun K hK => ?_) AllReadyH.nil
              (refine step_app _ (by rfl) _ _ _ (by rfl) u.heap.size 59 i0 _ 3 64 Try.underlying28 hi hz0 hz1 hz2 rfl (by omega) (.slice A5 j c5) j (xs.take (j * 3)) (by rfl) (o5.alloc _) _ 1 1 [.string e.item, .slice none 0 0, .slice none 0 0] (by rfl) (RS_new (by simp)) (by simp [Value.oneCell']) (by unfold maxLen; omega) (by omega) (by have := B5.out.size; simp; omega) ?_; intro A10 c10 w10 o10 g10 at10 b10; have B10 : Hid (Below u.heap.size u w10) := Lib.hid ((B5.out.alloc B5.out.size _).trans b10))
              refine hK.out _ _ (⟨cell_keep B10.out q0, cell_keep B10.out e3⟩) (fun hHeld => ?_)
              clear hK K
              (try simp only [Act.put, List.setIfInBounds_toArray, List.set_cons_zero, List.set_cons_succ])
              clear o5 g5 at5 b5 B5 g10 at10 b10
            rotate_left 1
            focus
              go_simp
              refine hK.out _ _ (⟨cell_alloc (cell_alloc (show u.drew.cell? _ = _ from q0) _) _, cell_alloc (cell_alloc (show u.drew.cell? _ = _ from e3) _) _⟩) (fun hHeld => ?_)
              clear hK K
              (try simp only [Act.put, List.setIfInBounds_toArray, List.set_cons_zero, List.set_cons_succ])
              have OW := ((Owns.one E0).cons (below_box _ (Obj.cells #[.string e.item, .slice none 0 0, .slice none 0 0] 59)) (own_new _ (e := 59) (size := 3) (n := 1) #[.string e.item, .slice none 0 0, .slice none 0 0] (Nat.le_refl _) (by unfold maxLen; omega) (by simp)) (Nat.le_refl _) (by simp))
              rw [show (u.drew.alloc (Obj.cells #[] 59)).heap.size = u.heap.size + 1 from by rw [World.size_alloc]; rfl] at OW
              refine wpAnyH_ready (rs := [5]) (by kernel_rfl) (by simp) ?_
              refine AllReadyH.cons (o := ?_) (by simp only [List.getElem?_toArray, List.getElem?_cons_succ, List.getElem?_cons_zero]; rfl) (fun K hK => ?_) AllReadyH.nil
              (refine step_app0 _ (by rfl) _ _ _ (by rfl) u.heap.size 59 i0 _ 3 64 Try.underlying28 hi hz0 hz1 hz2 rfl (by omega) (.slice (some ⟨_, 0, none⟩) 0 0) (by rfl) (OW.get (r := ⟨59, 3, _, 0, []⟩) (by simp)) _ j _ (xs.take (j * 3)) (by rfl) ((HD.below ((Below.refl _ _).drew.alloc (Nat.le_refl _) _)).alloc _) tone.out (by unfold maxLen; omega) (by omega) (by simp <;> omega) ?_; intro A5 c5 w5 o5 g5 at5 b5; have B5 : Hid (Below u.heap.size u w5) := (by refine Below.trans ?_ b5; go_grown <;> omega); have O5 := OW.turn (i := 1) rfl g5 o5 (own_sides at5))
              refine hK.out _ _ (⟨cell_keep B5.out q0, cell_keep B5.out e3⟩) (fun hHeld => ?_)
              clear hK K
              (try simp only [Act.put, List.setIfInBounds_toArray, List.set_cons_zero, List.set_cons_succ])
              refine wpAnyH_ready (rs := [10]) (by kernel_rfl) (by simp) ?_
              refine AllReadyH.cons (o := ?_) (by simp only [List.getElem?_toArray, List.getElem?_cons_succ, List.getElem?_cons_zero]; rfl) (fun K hK => ?_) AllReadyH.nil
              (refine step_app _ (by rfl) _ _ _ (by rfl) u.heap.size 59 i0 _ 3 64 Try.underlying28 hi hz0 hz1 hz2 rfl (by omega) (.slice A5 j c5) j (xs.take (j * 3)) (by rfl) o5 _ 1 1 [.string e.item, .slice none 0 0, .slice none 0 0] (by rfl) (RS.of_own (O5.get (r := ⟨59, 3, .slice (some ⟨u.heap.size + 1, 0, none⟩) 1 1, 1, [.string e.item, .slice none 0 0, .slice none 0 0]⟩) (by simp))) (by simp [Value.oneCell']) (by unfold maxLen; omega) (by omega) (by have := B5.out.size; simp; omega) ?_; intro A10 c10 w10 o10 g10 at10 b10; have B10 : Hid (Below u.heap.size u w10) := Lib.hid (B5.out.trans b10))
              refine hK.out _ _ (⟨cell_keep B10.out q0, cell_keep B10.out e3⟩) (fun hHeld => ?_)
              clear hK K
              (try simp only [Act.put, List.setIfInBounds_toArray, List.set_cons_zero, List.set_cons_succ])
              clear o5 g5 at5 b5 B5 g10 at10 b10 OW O5
          rotate_left 2
          focus
            go_simp
            refine hK.out _ _ (⟨cell_alloc (show u.drew.cell? _ = _ from q0) _, cell_alloc (show u.drew.cell? _ = _ from e3) _⟩) (fun hHeld => ?_)
            clear hK K
            (try simp only [Act.put, List.setIfInBounds_toArray, List.set_cons_zero, List.set_cons_succ])
            refine wpAnyH_ready (rs := [0]) (by kernel_rfl) (by simp) ?_
            refine AllReadyH.cons (o := ?_) (by simp only [List.getElem?_toArray, List.getElem?_cons_zero]; rfl) (fun K hK => ?_) AllReadyH.nil
            go_simp
            refine hK.out _ _ (⟨cell_alloc (cell_alloc (show u.drew.cell? _ = _ from q0) _) _, cell_alloc (cell_alloc (show u.drew.cell? _ = _ from e3) _) _⟩) (fun hHeld => ?_)
            clear hK K
            (try simp only [Act.put, List.setIfInBounds_toArray, List.set_cons_zero, List.set_cons_succ])
            have OW := ((Owns.one ON).cons (below_box _ (Obj.cells #[] 59)) (own_empty _ _ 59 3 (Nat.le_refl _)) (Nat.le_refl _) (by simp))
            rw [show (u.drew.alloc (Obj.cells #[.string e.item, .slice none 0 0, .slice none 0 0] 59)).heap.size = u.heap.size + 1 from by rw [World.size_alloc]; rfl] at OW
            refine wpAnyH_ready (rs := [5]) (by kernel_rfl) (by simp) ?_
            refine AllReadyH.cons (o := ?_) (by simp only [List.getElem?_toArray, List.getElem?_cons_succ, List.getElem?_cons_zero]; rfl) (fun K hK => ?_) AllReadyH.nil
            (refine step_app0 _ (by rfl) _ _ _ (by rfl) u.heap.size 59 i0 _ 3 64 Try.underlying28 hi hz0 hz1 hz2 rfl (by omega) (.slice (some ⟨_, 0, none⟩) 0 0) (by rfl) (OW.get (r := ⟨59, 3, _, 0, []⟩) (by simp)) _ j _ (xs.take (j * 3)) (by rfl) ((HD.below ((Below.refl _ _).drew.alloc (Nat.le_refl _) _)).alloc _) tone.out (by unfold maxLen; omega) (by omega) (by simp <;> omega) ?_; intro A5 c5 w5 o5 g5 at5 b5; have B5 : Hid (Below u.heap.size u w5) := (by refine Below.trans ?_ b5; go_grown <;> omega); have O5 := OW.turn (i := 0) rfl g5 o5 (own_sides at5))
            refine hK.out _ _ (⟨cell_keep B5.out q0, cell_keep B5.out e3⟩) (fun hHeld => ?_)
            clear hK K
            (try simp only [Act.put, List.setIfInBounds_toArray, List.set_cons_zero, List.set_cons_succ])
            refine wpAnyH_ready (rs := [10]) (by kernel_rfl) (by simp) ?_
            refine AllReadyH.cons (o := ?_) (by simp only [List.getElem?_toArray, List.getElem?_cons_succ, List.getElem?_cons_zero]; rfl) (fun K hK => ?_) AllReadyH.nil
            (refine step_app _ (by rfl) _ _ _ (by rfl) u.heap.size 59 i0 _ 3 64 Try.underlying28 hi hz0 hz1 hz2 rfl (by omega) (.slice A5 j c5) j (xs.take (j * 3)) (by rfl) o5 _ 1 1 [.string e.item, .slice none 0 0, .slice none 0 0] (by rfl) (RS.of_own (O5.get (r := ⟨59, 3, .slice (some ⟨u.heap.size, 0, none⟩) 1 1, 1, [.string e.item, .slice none 0 0, .slice none 0 0]⟩) (by simp))) (by simp [Value.oneCell']) (by unfold maxLen; omega) (by omega) (by have := B5.out.size; simp; omega) ?_; intro A10 c10 w10 o10 g10 at10 b10; have B10 : Hid (Below u.heap.size u w10) := Lib.hid (B5.out.trans b10))
            refine hK.out _ _ (⟨cell_keep B10.out q0, cell_keep B10.out e3⟩) (fun hHeld => ?_)
            clear hK K
            (try simp only [Act.put, List.setIfInBounds_toArray, List.set_cons_zero, List.set_cons_succ])
            clear o5 g5 at5 b5 B5 g10 at10 b10 OW O5
          all_goals
            refine wpAnyH_ready (rs := [15]) (by kernel_rfl) (by simp) ?_
            refine AllReadyH.cons (o := ?_) (by simp only [List.getElem?_toArray, List.getElem?_cons_succ, List.getElem?_cons_zero]; rfl) (fun K hK => ?_) AllReadyH.nil
            (refine step_app _ (by rfl) _ _ _ (by rfl) u.heap.size 59 i0 _ 3 64 Try.underlying28 hi hz0 hz1 hz2 rfl (by omega) (.slice A10 (j + 1) c10) (j + 1) _ (by rfl) o10 _ (sn - j) _ (xs.drop (j * 3)) (by rfl) (TL.below B10.out) (fun x hx => hone x (List.mem_of_mem_drop hx)) (by unfold maxLen; omega) (by omega) B10.out.size ?_; intro A8 mc w8 o8 g8 at8 b8; have B8 : Hid (Below u.heap.size u w8) := Lib.hid (B10.out.trans b8); have Q8 := Lib.hid (blk_keep B8.out QU.out); have E8 := Lib.hid (blk_keep B8.out EU.out); have Z8 := Lib.hid (blk_keep B8.out ZU.out); have q8 := blk_at Q8.out (j := 0) rfl; have f8 := blk_free Q8.out)
            refine hK.out _ _ (⟨cell_keep B8.out q0, cell_keep B8.out e3⟩) (fun hHeld => ?_)
            clear hK K
            (try simp only [Act.put, List.setIfInBounds_toArray, List.set_cons_zero, List.set_cons_succ])
            refine wpAnyH_take (i := 16) (oi := ?_) (v := ?_) (by simp only [List.getElem?_toArray, List.getElem?_cons_succ, List.getElem?_cons_zero]; rfl) (by kernel_rfl) (by kernel_rfl) (by kernel_rfl) ?_ (Or.inl ⟨by rfl, ?_⟩) hHeld ?_
            rotate_left 1
            focus exact CutPost.panic fun _ _ _ h => h
            focus (intro w hSw; (try dsimp only at hSw); go_simp; try with_reducible rfl)
            (try simp only [Act.put, List.setIfInBounds_toArray, List.set_cons_zero, List.set_cons_succ])
            refine wpAnyH_done (by kernel_rfl) ?_ _
            refine CutPost.step (o := ?_) (by simp only [List.getElem?_toArray, List.getElem?_cons_succ, List.getElem?_cons_zero]; rfl) (fun K hK => ?_)
            go_simp
            refine hK _ _ ?_
            clear hK K
            (try simp only [Act.put, List.setIfInBounds_toArray, List.set_cons_zero, List.set_cons_succ])
            generalize (ite (sc = j) _ _ : Option Addr) = tA
            obtain ⟨m, hm⟩ : ∃ m, m = j + 1 + (sn - j) := ⟨_, rfl⟩
            rw [← hm] at o8 at8 ⊢
            rw [List.append_assoc] at o8
            have m1 : m = sn + 1 := by omega
            have SO8 := PI'.out w8 A8 m mc e.item (grown_of_below _ B8.out) (own_base o8 zu) m1 (.inr fun x hx => (o8.lt x hx).1)
            rw [← NS.out] at SO8
            have BV := Lib.hid ((show BooksO w8 lo w8.heap.size _ _ _ _ _ _ from ⟨us, US.out, SO8⟩).setq (j := 0) (u := .slice A8 m mc) Q8.out rfl).top
            have QV := Lib.hid (heap_setCell_same w8 w.heap.size 0 _ _ (.slice A8 m mc) Q8.out)
            have kq := Lib.hid (Keeps.setq (j := 0) (u := .slice A8 m mc) Q8.out)
            have EV := Lib.hid (kq.out _ _ _ (.inl rfl) E8.out)
            have ZV := Lib.hid (kq.out _ _ _ (.inr ⟨rfl, fun h => by injection h with h; omega⟩) Z8.out)
            have bV := Lib.hid (((b0.out.mono hlo).trans ((B1.out.mono (by rw [WS.out]; omega)).trans ((BU.out.mono (by have := B1.out.size; have := WS.out; omega)).trans (B8.out.mono zu)))).setCell (p := ⟨w.heap.size, 0, none⟩) hlo (.slice A8 m mc))
            have kV := Lib.hid ((Keeps.below b0.out).trans ((Keeps.below B1.out).trans ((Keeps.below BU.out).trans ((Keeps.below B8.out).trans kq.out))))
            clear o8 SO8 g8 at8 b8 Q8 E8 Z8 q8 f8 ON TL HD E0 o0 hone PI' q0 e3 US tone kq B8 o10 B10
            obtain ⟨V, hV⟩ : ∃ V, V = w8.setCell ⟨w.heap.size, 0, none⟩ (.slice A8 m mc) := ⟨_, rfl⟩
            rw [← hV] at BV QV EV ZV bV kV ⊢
            clear hV
            have zV : lo ≤ V.heap.size := Nat.le_trans hlo bV.out.size
            obtain ⟨p, hp⟩ : ∃ p, p = j := ⟨_, rfl⟩
            rw [← hp] at IA ⊢
            have hpm : p < m := by omega
            have IL : Hid ((insSs ss e.item).length = m) := IL.out.trans m1.symm
            have mle : m ≤ 13 := by omega
            clear hp m1 hm hj jc jn cap1 cap2 NS CL hno hbj BU QU EU ZU Q1 E1 Z1 B1 b0 E Q Z HB WS H0 RW i1
            go_wp2_with fail
            go_meet
            exact ⟨A8, m, mc, p, rfl, IA, hpm, mle, IL, QV, EV, ZV, BV, bV, kV⟩
    · have H0 := Lib.hid h0; clear h0
      have hp := (List.getElem?_eq_some_iff.1 hx).1
      have NS := Lib.hid (show insSs ss e.item = ss by rw [insSs, H0.out, if_neg (by omega)])
      have IL := Lib.hid (show (insSs ss e.item).length = sn by rw [NS.out, hl.out])
      have IA := Lib.hid (show insAt ss e.item = p by rw [insAt, H0.out, if_neg (by omega)]; simp)
      have hpm : p < sn := by rw [← hl.out]; exact hp
      clear hx he hp
      rw [H0.out]
      have BV : Hid (BooksO w1 lo w1.heap.size (.slice sA sn sc) sn (insSs ss e.item) (.slice dA dn dc) dn ds) := Lib.hid (by rw [NS.out]; exact (HB.out.below B1.out).top)
      have bV := Lib.hid ((b0.out.mono hlo).trans (B1.out.mono (by rw [WS.out]; omega)))
      have kV := Lib.hid ((Keeps.below (q := some w.heap.size) b0.out).trans (Keeps.below B1.out))
      have i0' : ¬ (p : Int) < 0 := by omega
      go_wp2_with fail
      go_meet
      exact ⟨sA, sn, sc, p, rfl, IA, hpm, by omega, IL, Q1, E1, Z1, BV, bV, kV⟩
  case rest =>
    obtain ⟨A, m, mc, p, rfl, IA, hpm, mle, IL, QV, EV, ZV, BV, bV, kV⟩ := hcut
    have R := Lib.hid (show recvOk ss e.item e.q e.a = (areLayers (recvL (shGet ss e.item).lays e.q e.a) && decide (m ≤ 12)) by rw [RW.out, IL.out])
    clear b0 Q E Z HB WS Q1 E1 Z1 B1 RW hl
    obtain ⟨V, hV⟩ : ∃ V, V = wc := ⟨_, rfl⟩
    rw [← hV] at QV EV ZV BV bV kV ⊢
    clear hV
    have zV : lo ≤ V.heap.size := Nat.le_trans hlo bV.out.size
    have q0 := blk_at QV.out (j := 0) rfl
    obtain ⟨us, hus, SO⟩ := BV.out
    have US := Lib.hid hus; clear hus
    obtain ⟨g, rfl, hg1, hg2, ⟨cs, hcs⟩, hgf, s, iA, iC, lA, lC, hs, c0, c1, c2, oi, rl, RELAY, _⟩ := SO.shelf hpm zV
    obtain ⟨gg, ge⟩ := ins_get ss e.item
    rw [IA.out] at gg
    rw [gg] at hs
    obtain rfl := Option.some.inj hs
    obtain ⟨s, hS⟩ : ∃ s, shGet ss e.item = s := ⟨_, rfl⟩
    obtain ⟨sg1, sg2⟩ := SG.out
    have RS0 : recvSs ss e.item e.q e.a e.id = (insSs ss e.item).set p ⟨s.item, s.ids ++ [e.id], recvL s.lays e.q e.a⟩ := by rw [recvSs, IA.out, hS, ← ge, hS]
    have RS' := Lib.hid RS0
    clear RS0 hs
    rw [hS] at R RELAY rl oi c0 c1 c2 ge gg sg1 sg2
    have GG := Lib.hid gg; have RL := Lib.hid RELAY; have HS := Lib.hid hS
    clear gg RELAY hS
    have i1 : (0 : Int) ≤ p := by omega
    have i2 : (p : Int) < m := by omega
    have e4 := (evCells EV.out).2.2.2.2.1; have e5 := (evCells EV.out).2.2.2.2.2.1; have e0 := (evCells EV.out).1
    cases ha : areLayers (recvL s.lays e.q e.a)
    · have HA := Lib.hid ha; clear ha
      rw [HA.out, Bool.false_and] at R
      have RO : recvOut s.lays e.q e.a = [] := by simp [recvOut, HA.out]
      have RN : ([] : List Lay).length = 0 := rfl
      go_wp2_with fail
      go_region_held3 (fun w' => w'.cell? ⟨w.heap.size, 0, none⟩ = some (.slice (some ⟨g, 0, none⟩) m mc) ∧ w'.cell? ⟨g, p * 3 + 2, none⟩ = some (.slice lA s.lays.length lC) ∧ w'.cell? ⟨w.heap.size + 1, 4, none⟩ = some (.int .i64 e.q) ∧ w'.cell? ⟨w.heap.size + 1, 5, none⟩ = some (.int .i64 e.a))
        (first
          | go_keep
          | (go_split_ands; exact ⟨cell_keep hb2 q0, cell_keep hb2 c2, cell_keep hb2 e4, cell_keep hb2 e5⟩))
        (first | (go_at_call 111; refine (specReceive _ _ _ s.lays _ _ V.drew (rl.drewN 1) (by omega)).mono ?_; rw [HA.out, RO, RN]; rintro e' w2 ⟨A2, c2', rfl, o2, hb2⟩))
      have B2 := Lib.hid (show Below V.heap.size V w2 from (Below.refl _ _).drew.trans hb2)
      have X2 := Lib.hid (blk_keep B2.out QV.out); have Z2 := Lib.hid (blk_keep B2.out ZV.out)
      have b3 := Lib.hid (bV.out.trans (B2.out.mono zV)); have k3 := Lib.hid (kV.out.trans (Keeps.below B2.out))
      have x0 := blk_at X2.out (j := 0) rfl; have x1 := blk_at X2.out (j := 1) rfl; have x2 := blk_at X2.out (j := 2) rfl
      have z0 := blk_at Z2.out (j := 0) rfl; have z1 := blk_at Z2.out (j := 1) rfl; have z2 := blk_at Z2.out (j := 2) rfl; have zf := blk_free Z2.out
      clear c0 c1 c2 e0 e4 e5 q0 o2 hb2 oi rl
      go_wp2_with fail
      rw [R.out]
      refine bodyPost_ret (v := .tuple #[.agg #[.slice (some ⟨g, 0, none⟩) m mc, .int .i64 k, .slice dA dn dc], .int .i64 3]) (by simp [results, Try.results79, go_sem, z0, z1, z2]) rfl ⟨_, m, mc, dA, dn, dc, rfl, (fun h => by cases h), below_out3 b3.out (by omega) _ _ _, Keeps.fresh3 k3.out (Nat.le_refl _) (below_out3 (Below.refl _ _) (by omega) _ _ _)⟩
    · have HA := Lib.hid ha; clear ha
      rw [HA.out, Bool.true_and] at R
      have RO : recvOut s.lays e.q e.a = recvL s.lays e.q e.a := by simp [recvOut, HA.out]
      have RN : (recvL s.lays e.q e.a).length = s.lays.length + 1 := by simp [recvL]
      by_cases h12 : (12 : Int) < m
      · rw [decide_eq_false (p := m ≤ 12) (by omega)] at R
        go_wp2_with fail
        go_region_held3 (fun w' => w'.cell? ⟨w.heap.size, 0, none⟩ = some (.slice (some ⟨g, 0, none⟩) m mc) ∧ w'.cell? ⟨g, p * 3 + 2, none⟩ = some (.slice lA s.lays.length lC) ∧ w'.cell? ⟨w.heap.size + 1, 4, none⟩ = some (.int .i64 e.q) ∧ w'.cell? ⟨w.heap.size + 1, 5, none⟩ = some (.int .i64 e.a))
          (first
            | go_keep
            | (go_split_ands; exact ⟨cell_keep hb2 q0, cell_keep hb2 c2, cell_keep hb2 e4, cell_keep hb2 e5⟩))
          (first | (go_at_call 111; refine (specReceive _ _ _ s.lays _ _ V.drew (rl.drewN 1) (by omega)).mono ?_; rw [HA.out, RO, RN]; rintro e' w2 ⟨A2, c2', rfl, o2, hb2⟩))
        have B2 := Lib.hid (show Below V.heap.size V w2 from (Below.refl _ _).drew.trans hb2)
        have X2 := Lib.hid (blk_keep B2.out QV.out); have Z2 := Lib.hid (blk_keep B2.out ZV.out)
        have b3 := Lib.hid (bV.out.trans (B2.out.mono zV)); have k3 := Lib.hid (kV.out.trans (Keeps.below B2.out))
        have x0 := blk_at X2.out (j := 0) rfl; have x1 := blk_at X2.out (j := 1) rfl; have x2 := blk_at X2.out (j := 2) rfl
        have z0 := blk_at Z2.out (j := 0) rfl; have z1 := blk_at Z2.out (j := 1) rfl; have z2 := blk_at Z2.out (j := 2) rfl; have zf := blk_free Z2.out
        clear c0 c1 c2 e0 e4 e5 q0 o2 hb2 oi rl
        go_wp2_with fail
        rw [R.out]
        refine bodyPost_ret (v := .tuple #[.agg #[.slice (some ⟨g, 0, none⟩) m mc, .int .i64 k, .slice dA dn dc], .int .i64 3]) (by simp [results, Try.results79, go_sem, z0, z1, z2]) rfl ⟨_, m, mc, dA, dn, dc, rfl, (fun h => by cases h), below_out3 b3.out (by omega) _ _ _, Keeps.fresh3 k3.out (Nat.le_refl _) (below_out3 (Below.refl _ _) (by omega) _ _ _)⟩
      rw [decide_eq_true (p := m ≤ 12) (by omega)] at R
      go_wp2_with fail
      go_region_held3 (fun w' => w'.cell? ⟨w.heap.size, 0, none⟩ = some (.slice (some ⟨g, 0, none⟩) m mc) ∧ w'.cell? ⟨g, p * 3 + 2, none⟩ = some (.slice lA s.lays.length lC) ∧ w'.cell? ⟨w.heap.size + 1, 4, none⟩ = some (.int .i64 e.q) ∧ w'.cell? ⟨w.heap.size + 1, 5, none⟩ = some (.int .i64 e.a))
        (first
          | go_keep
          | (go_split_ands; exact ⟨cell_keep hb2 q0, cell_keep hb2 c2, cell_keep hb2 e4, cell_keep hb2 e5⟩))
        (first | (go_at_call 111; refine (specReceive _ _ _ s.lays _ _ V.drew (rl.drewN 1) (by omega)).mono ?_; rw [HA.out, RO, RN]; rintro e' w2 ⟨A2, c2', rfl, o2, hb2⟩))
      have B2 := Lib.hid (show Below V.heap.size V w2 from (Below.refl _ _).drew.trans hb2)
      have E2 := Lib.hid (blk_keep B2.out EV.out); have Q2 := Lib.hid (blk_keep B2.out QV.out); have Z2 := Lib.hid (blk_keep B2.out ZV.out)
      have hcs2 := Lib.hid (blk_keep B2.out hcs)
      have SO2 := Lib.hid (RL.out w2 A2 (s.lays.length + 1) c2' (recvL s.lays e.q e.a) B2.out o2).top
      have C2 := cell_keep B2.out c2; have f2 := blk_free hcs2.out; have q02 := cell_keep B2.out q0
      clear c0 c1 c2 e0 e4 e5 q0 o2 hb2 oi rl RO RN
      go_wp2_with fail
      have K2 := Lib.hid (Keeps.set (q := none) (u := .slice A2 (s.lays.length + 1) c2') (p := ⟨g, p * 3 + 2, none⟩) hcs2.out (by decide) (by decide))
      have E3 := Lib.hid (K2.out _ _ _ (.inl rfl) E2.out); have Q3 := Lib.hid (K2.out _ _ _ (.inr ⟨rfl, by simp⟩) Q2.out); have Z3 := Lib.hid (K2.out _ _ _ (.inr ⟨rfl, by simp⟩) Z2.out)
      have b3 := Lib.hid ((bV.out.trans (B2.out.mono zV)).setCell (p := ⟨g, p * 3 + 2, none⟩) hg1 (.slice A2 (s.lays.length + 1) c2'))
      have k3 := Lib.hid ((kV.out.trans (Keeps.below B2.out)).trans (K2.out.one w.heap.size))
      obtain ⟨V2, hV2⟩ : ∃ V2, V2 = w2.setCell ⟨g, p * 3 + 2, none⟩ (.slice A2 (s.lays.length + 1) c2') := ⟨_, rfl⟩
      rw [← hV2] at SO2 E3 Q3 Z3 b3 k3 ⊢
      clear hV2 K2 C2 f2 q02
      have z2 : lo ≤ V2.heap.size := Nat.le_trans hlo b3.out.size
      obtain ⟨g', hA', _, hg2', ⟨cs', hcs'⟩, hgf', s', iA', iC', lA', lC', hs', d0, d1, d2, oi, _, _, REID⟩ := SO2.out.shelf hpm z2
      obtain rfl : g = g' := by injection hA' with h; injection h
      rw [List.getElem?_set_self (by rw [IL.out]; exact hpm)] at hs'
      obtain rfl := Option.some.inj hs'
      have RI := Lib.hid REID; have CS := Lib.hid hcs'
      clear REID hA' hs' d0 d2 SO2 hcs'
      simp only at d1 oi
      have e0 := (evCells E3.out).1
      have q0 := blk_at Q3.out (j := 0) rfl
      have f3 := blk_free CS.out
      refine wp_region_cut (S := fun w' => w'.cell? ⟨w.heap.size, 0, none⟩ = some (.slice (some ⟨g, 0, none⟩) m mc) ∧ w'.cell? ⟨g, p * 3 + 1, none⟩ = some (.slice iA' s.ids.length iC') ∧ w'.cell? ⟨w.heap.size + 1, 0, none⟩ = some (.int .i64 e.id)) 15 (by kernel_rfl) (by kernel_rfl) (by simp only [List.pop_toArray, List.dropLast_cons_cons, List.dropLast_singleton]; rfl) ⟨q0, d1, e0⟩ (fun hHeld => ?_)
      refine wpAnyH_take (i := 0) (oi := ?_) (v := ?_) (by simp only [List.getElem?_toArray, List.getElem?_cons_zero]; rfl) (by kernel_rfl) (by kernel_rfl) (by kernel_rfl) ?_ (Or.inl ⟨by rfl, ?_⟩) hHeld ?_
      rotate_left 1
      focus exact CutPost.panic fun _ _ _ h => h
      focus (intro w hSw; (try dsimp only at hSw); go_simp; try with_reducible rfl)
      (try simp only [Act.put, List.setIfInBounds_toArray, List.set_cons_zero, List.set_cons_succ])
      refine wpAnyH_take (i := 1) (oi := ?_) (v := ?_) (by simp only [List.getElem?_toArray, List.getElem?_cons_succ, List.getElem?_cons_zero]; rfl) (by kernel_rfl) (by kernel_rfl) (by kernel_rfl) ?_ (Or.inl ⟨by rfl, ?_⟩) hHeld ?_
      rotate_left 1
      focus exact CutPost.panic fun _ _ _ h => h
      focus (intro w hSw; (try dsimp only at hSw); go_simp; try with_reducible rfl)
      (try simp only [Act.put, List.setIfInBounds_toArray, List.set_cons_zero, List.set_cons_succ])
      refine wpAnyH_take (i := 2) (oi := ?_) (v := ?_) (by simp only [List.getElem?_toArray, List.getElem?_cons_succ, List.getElem?_cons_zero]; rfl) (by kernel_rfl) (by kernel_rfl) (by kernel_rfl) ?_ (Or.inl ⟨by rfl, ?_⟩) hHeld ?_
      rotate_left 1
      focus exact CutPost.panic fun _ _ _ h => h
      focus (intro w hSw; (try dsimp only at hSw); go_simp; try with_reducible rfl)
      (try simp only [Act.put, List.setIfInBounds_toArray, List.set_cons_zero, List.set_cons_succ])
      refine wpAnyH_take (i := 3) (oi := ?_) (v := ?_) (by simp only [List.getElem?_toArray, List.getElem?_cons_succ, List.getElem?_cons_zero]; rfl) (by kernel_rfl) (by kernel_rfl) (by kernel_rfl) ?_ (Or.inl ⟨by rfl, ?_⟩) hHeld ?_
      rotate_left 1
      focus exact CutPost.panic fun _ _ _ h => h
      focus (intro w hSw; (try dsimp only at hSw); go_simp; try with_reducible rfl)
      (try simp only [Act.put, List.setIfInBounds_toArray, List.set_cons_zero, List.set_cons_succ])
      refine wpAnyH_take (i := 4) (oi := ?_) (v := ?_) (by simp only [List.getElem?_toArray, List.getElem?_cons_succ, List.getElem?_cons_zero]; rfl) (by kernel_rfl) (by kernel_rfl) (by kernel_rfl) ?_ (Or.inl ⟨by rfl, ?_⟩) hHeld ?_
      rotate_left 1
      focus exact CutPost.panic fun _ _ _ h => h
      focus (intro w hSw; (try dsimp only at hSw); go_simp; try with_reducible rfl)
      (try simp only [Act.put, List.setIfInBounds_toArray, List.set_cons_zero, List.set_cons_succ])
      refine wpAnyH_take (i := 5) (oi := ?_) (v := ?_) (by simp only [List.getElem?_toArray, List.getElem?_cons_succ, List.getElem?_cons_zero]; rfl) (by kernel_rfl) (by kernel_rfl) (by kernel_rfl) ?_ (Or.inl ⟨by rfl, ?_⟩) hHeld ?_
      rotate_left 1
      focus exact CutPost.panic fun _ _ _ h => h
      focus (intro w hSw; (try dsimp only at hSw); go_simp; try with_reducible rfl)
      (try simp only [Act.put, List.setIfInBounds_toArray, List.set_cons_zero, List.set_cons_succ])
      refine wpAnyH_take (i := 6) (oi := ?_) (v := ?_) (by simp only [List.getElem?_toArray, List.getElem?_cons_succ, List.getElem?_cons_zero]; rfl) (by kernel_rfl) (by kernel_rfl) (by kernel_rfl) ?_ (Or.inl ⟨by rfl, ?_⟩) hHeld ?_
      rotate_left 1
      focus exact CutPost.panic fun _ _ _ h => h
      focus (intro w hSw; (try dsimp only at hSw); go_simp; try with_reducible rfl)
      (try simp only [Act.put, List.setIfInBounds_toArray, List.set_cons_zero, List.set_cons_succ])
      refine wpAnyH_take (i := 7) (oi := ?_) (v := ?_) (by simp only [List.getElem?_toArray, List.getElem?_cons_succ, List.getElem?_cons_zero]; rfl) (by kernel_rfl) (by kernel_rfl) (by kernel_rfl) ?_ (Or.inl ⟨by rfl, ?_⟩) hHeld ?_
      rotate_left 1
      focus exact CutPost.panic fun _ _ _ h => h
      focus (intro w hSw; (try dsimp only at hSw); go_simp; try with_reducible rfl)
      (try simp only [Act.put, List.setIfInBounds_toArray, List.set_cons_zero, List.set_cons_succ])
      refine wpAnyH_take (i := 8) (oi := ?_) (v := ?_) (by simp only [List.getElem?_toArray, List.getElem?_cons_succ, List.getElem?_cons_zero]; rfl) (by kernel_rfl) (by kernel_rfl) (by kernel_rfl) ?_ (Or.inl ⟨by rfl, ?_⟩) hHeld ?_
      rotate_left 1
      focus exact CutPost.panic fun _ _ _ h => h
      focus (intro w hSw; (try dsimp only at hSw); go_simp; try with_reducible rfl)
      (try simp only [Act.put, List.setIfInBounds_toArray, List.set_cons_zero, List.set_cons_succ])
      refine wpAnyH_take (i := 9) (oi := ?_) (v := ?_) (by simp only [List.getElem?_toArray, List.getElem?_cons_succ, List.getElem?_cons_zero]; rfl) (by kernel_rfl) (by kernel_rfl) (by kernel_rfl) ?_ (Or.inl ⟨by rfl, ?_⟩) hHeld ?_
      rotate_left 1
      focus exact CutPost.panic fun _ _ _ h => h
      focus (intro w hSw; (try dsimp only at hSw); go_simp; try with_reducible rfl)
      (try simp only [Act.put, List.setIfInBounds_toArray, List.set_cons_zero, List.set_cons_succ])
      refine wpAnyH_take (i := 10) (oi := ?_) (v := ?_) (by simp only [List.getElem?_toArray, List.getElem?_cons_succ, List.getElem?_cons_zero]; rfl) (by kernel_rfl) (by kernel_rfl) (by kernel_rfl) ?_ (Or.inl ⟨by rfl, ?_⟩) hHeld ?_
      rotate_left 1
      focus exact CutPost.panic fun _ _ _ h => h
      focus (intro w hSw; (try dsimp only at hSw); go_simp; try with_reducible rfl)
      (try simp only [Act.put, List.setIfInBounds_toArray, List.set_cons_zero, List.set_cons_succ])
      refine wpAnyH_ready (rs := [11]) (by kernel_rfl) (by simp) ?_
      refine AllReadyH.cons (o := ?_) (by simp only [List.getElem?_toArray, List.getElem?_cons_succ, List.getElem?_cons_zero]; rfl) (fun K hK => ?_) AllReadyH.nil
      go_simp
      refine hK.out _ _ (⟨cell_alloc (show V2.drew.cell? _ = _ from q0) _, cell_alloc (show V2.drew.cell? _ = _ from d1) _, cell_alloc (show V2.drew.cell? _ = _ from e0) _⟩) (fun hHeld => ?_)
      clear hK K
      (try simp only [Act.put, List.setIfInBounds_toArray, List.set_cons_zero, List.set_cons_succ])
      refine wpAnyH_ready (rs := [12]) (by kernel_rfl) (by simp) ?_
      refine AllReadyH.cons (o := ?_) (by simp only [List.getElem?_toArray, List.getElem?_cons_succ, List.getElem?_cons_zero]; rfl) (fun K hK => ?_) AllReadyH.nil
      (refine step_app _ (by rfl) _ _ _ (by rfl) lo 3 j0 _ 1 8 Try.underlying56 hi' hz0' hz1' hz2' rfl (by omega) (.slice iA' s.ids.length iC') s.ids.length (intCells s.ids) (by rfl) (oi.drew.alloc _) _ 1 1 [.int .i64 e.id] (by rfl) (by first | exact RS_new (by simp) | exact (RS_new (by simp)).drewN 1) (by simp [Value.oneCell']) (by unfold maxLen; omega) (by omega) (Nat.le_trans z2 (Below.size (Below.drew (below_box V2 _)))) ?_; intro A6 c6 w6 o6 g6 at6 b6; have BX : Hid (Below V2.heap.size V2 (V2.drew.alloc (Obj.cells #[.int .i64 e.id] 3))) := Lib.hid ((Below.refl _ _).drew.alloc (Nat.le_refl _) _); have G6 := Lib.hid (grown_pre BX.out g6); have K6 := Lib.hid (Keeps.grown (q := none) oi G6.out (by decide) (by decide)); have E6 := Lib.hid (K6.out _ _ _ (.inl rfl) E3.out); have Q6 := Lib.hid (K6.out _ _ _ (.inr ⟨rfl, by simp⟩) Q3.out); have Z6 := Lib.hid (K6.out _ _ _ (.inr ⟨rfl, by simp⟩) Z3.out); have e6 := (evCells E6.out).1; have q6 := blk_at Q6.out (j := 0) rfl; have CS6 := Lib.hid ((G6.out.block g hg2' (fun h => own_ne_type oi CS.out (by decide) h.symm)).trans CS.out); have d6 := (World.cell?_of_block (a := ⟨g, p * 3 + 1, none⟩) (G6.out.block g hg2' (fun h => own_ne_type oi CS.out (by decide) h.symm))).trans d1; have f6 := blk_free CS6.out)
      refine hK.out _ _ (⟨q6, d6, e6⟩) (fun hHeld => ?_)
      clear hK K
      (try simp only [Act.put, List.setIfInBounds_toArray, List.set_cons_zero, List.set_cons_succ])
      refine wpAnyH_take (i := 13) (oi := ?_) (v := ?_) (by simp only [List.getElem?_toArray, List.getElem?_cons_succ, List.getElem?_cons_zero]; rfl) (by kernel_rfl) (by kernel_rfl) (by kernel_rfl) ?_ (Or.inl ⟨by rfl, ?_⟩) hHeld ?_
      rotate_left 1
      focus exact CutPost.panic fun _ _ _ h => h
      focus (intro w hSw; (try dsimp only at hSw); go_simp; try with_reducible rfl)
      (try simp only [Act.put, List.setIfInBounds_toArray, List.set_cons_zero, List.set_cons_succ])
      refine wpAnyH_take (i := 14) (oi := ?_) (v := ?_) (by simp only [List.getElem?_toArray, List.getElem?_cons_succ, List.getElem?_cons_zero]; rfl) (by kernel_rfl) (by kernel_rfl) (by kernel_rfl) ?_ (Or.inl ⟨by rfl, ?_⟩) hHeld ?_
      rotate_left 1
      focus exact CutPost.panic fun _ _ _ h => h
      focus (intro w hSw; (try dsimp only at hSw); go_simp; try with_reducible rfl)
      (try simp only [Act.put, List.setIfInBounds_toArray, List.set_cons_zero, List.set_cons_succ])
      refine wpAnyH_done (by kernel_rfl) ?_ _
      refine CutPost.step (o := ?_) (by simp only [List.getElem?_toArray, List.getElem?_cons_succ, List.getElem?_cons_zero]; rfl) (fun K hK => ?_)
      go_simp
      refine hK _ _ ?_
      clear hK K
      (try simp only [Act.put, List.setIfInBounds_toArray, List.set_cons_zero, List.set_cons_succ])
      have O6 : w6.ownsRow lo 3 1 (.slice A6 (s.ids.length + 1) c6) (s.ids.length + 1) (intCells (s.ids ++ [e.id])) := by simpa [intCells] using o6
      have SOF := Lib.hid (RI.out w6 A6 (s.ids.length + 1) c6 (s.ids ++ [e.id]) G6.out O6 (at6.imp id fun h x hx => by rw [h] at hx; injection hx with hx; rw [← hx]; exact BX.out.size)).top
      have K9 := Lib.hid (Keeps.set (q := none) (u := .slice A6 (s.ids.length + 1) c6) (p := ⟨g, p * 3 + 1, none⟩) CS6.out (by decide) (by decide))
      have QF := Lib.hid (K9.out _ _ _ (.inr ⟨rfl, by simp⟩) Q6.out); have ZF := Lib.hid (K9.out _ _ _ (.inr ⟨rfl, by simp⟩) Z6.out)
      have bF := Lib.hid ((b3.out.trans ((BX.out.mono z2).trans b6)).setCell (p := ⟨g, p * 3 + 1, none⟩) hg1 (.slice A6 (s.ids.length + 1) c6))
      have kF := Lib.hid (k3.out.trans ((K6.out.one w.heap.size).trans (K9.out.one w.heap.size)))
      clear o6 g6 at6 b6 O6 d6 e6 f6 q6 d1 e0 f3 q0 oi G6 K6 K9
      have x0 := blk_at QF.out (j := 0) rfl; have x1 := blk_at QF.out (j := 1) rfl; have x2 := blk_at QF.out (j := 2) rfl
      have z0 := blk_at ZF.out (j := 0) rfl; have z1 := blk_at ZF.out (j := 1) rfl; have z2 := blk_at ZF.out (j := 2) rfl; have zf := blk_free ZF.out
      obtain ⟨VF, hVF⟩ : ∃ VF, VF = w6.setCell ⟨g, p * 3 + 1, none⟩ (.slice A6 (s.ids.length + 1) c6) := ⟨_, rfl⟩
      rw [← hVF] at SOF QF ZF bF kF x0 x1 x2 z0 z1 z2 zf ⊢
      clear hVF
      go_wp2_with fail
      rw [R.out, RS'.out]
      refine bodyPost_ret (v := .tuple #[.agg #[.slice (some ⟨g, 0, none⟩) m mc, .int .i64 k, .slice dA dn dc], .int .i64 0]) (by simp [results, Try.results79, go_sem, z0, z1, z2]) rfl ⟨_, m, mc, dA, dn, dc, rfl, fun _ => ?_, below_out3 bF.out (by omega) _ _ _, Keeps.fresh3 kF.out (Nat.le_refl _) (below_out3 (Below.refl _ _) (by omega) _ _ _)⟩
      have hso := SOF.out
      rw [List.set_set] at hso
      exact (BooksO.out3 ⟨us, US.out, hso⟩ ZF.out _ _ _).top
end Go.Proofs.Ytlgodbjbllpipaa
