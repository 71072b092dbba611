/- The walk of receive. No condition. -/
import Derived.Test.YtlgodbjbllpipaaBkPost
import Derived.Test.YtlgodbjbllpipaaLayE
namespace Go.Proofs.Ytlgodbjbllpipaa
open Go.ChangeShapes Go.WideShapes Go.ChangeAt Go.RowKit

theorem shGood_lays {ss : List Shf} (h : shsOk ss = true) (item : ByteArray) : (shGet ss item).lays.length ≤ 24 ∧ (shGet ss item).ids.length ≤ 24 := by
  rcases shelfAt_cases ss item with ⟨h0, _⟩ | ⟨k, x, h0, hx, he, _⟩
  · simp [shGet, h0]
  · rw [shGet_at h0 hx]
    obtain ⟨_, h2, h3⟩ := shsOk_at h (List.mem_of_getElem? hx)
    omega
theorem evCells {w : World} {r : Nat} {e : Ev} (h : w.heap[r]? = some (.cells #[.int .i64 e.id, .int .i64 e.day, .int .i64 e.kind, .string e.item, .int .i64 e.q, .int .i64 e.a, .int .i64 e.r] 44 (0, 0))) :
    w.cell? ⟨r, 0, none⟩ = some (.int .i64 e.id) ∧ w.cell? ⟨r, 1, none⟩ = some (.int .i64 e.day) ∧ w.cell? ⟨r, 2, none⟩ = some (.int .i64 e.kind) ∧ w.cell? ⟨r, 3, none⟩ = some (.string e.item) ∧ w.cell? ⟨r, 4, none⟩ = some (.int .i64 e.q) ∧ w.cell? ⟨r, 5, none⟩ = some (.int .i64 e.a) ∧ w.cell? ⟨r, 6, none⟩ = some (.int .i64 e.r) :=
  ⟨blk_at h rfl, blk_at h rfl, blk_at h rfl, blk_at h rfl, blk_at h rfl, blk_at h rfl, blk_at h rfl⟩

theorem own_same (A : Option Addr) (n c n' c' : Nat) : (Value.slice A n c).ownBlock = (Value.slice A n' c').ownBlock := by cases A <;> rfl
theorem grown_pre {w u w' : World} {row : Option Nat} (hb : Below w.heap.size w u) (hg : u.grownBy w' row) : w.grownBy w' row :=
  ⟨hg.os.trans hb.os, hg.tape.trans hb.tape, hg.output.trans hb.output, Nat.le_trans hb.size hg.size, fun k hk hn => (hg.block k (Nat.lt_of_lt_of_le hk hb.size) hn).trans (hb.block k hk)⟩
theorem own_cap {w : World} {base size n c : Nat} {e : TypeId} {A : Option Addr} {xs : List Value} (h : w.ownsRow base e size (.slice A n c) n xs) : n ≤ c ∧ c ≤ maxLen := by
  obtain ⟨A', c', hv, h1, h2⟩ := own_slice h
  injection hv with _ _ h3
  subst h3
  exact ⟨h1, h2⟩
/-- A row's tail, as 'x[k:]' reads it. -/
theorem RS.tail {w : World} {base size n c k : Nat} {e : TypeId} {A : Option Addr} {xs : List Value} (h : w.ownsRow base e size (.slice A n c) n xs) (hk : k ≤ n) : RS w size (if c = k then A else A.map fun a => a.add (k * size)) (n - k) (xs.drop (k * size)) := by
  have hl := h.1
  refine ⟨by rw [List.length_drop, hl, Nat.sub_mul], fun hp => ?_⟩
  have hc := (own_cap h).1
  obtain ⟨g, rfl, _, _, hcell, _⟩ := own_addr h (by omega)
  rw [if_neg (by omega)]
  have ha : (⟨g, 0, none⟩ : Addr).add (k * size) = ⟨g, k * size, none⟩ := by unfold Addr.add; split <;> simp_all
  refine ⟨g, k * size, by simp [ha], fun j u hu => ?_⟩
  rw [List.getElem?_drop] at hu
  have hj := (List.getElem?_eq_some_iff.1 hu).1
  rw [hcell _ (by omega)]
  exact hu

set_option maxRecDepth 100000 in
set_option maxHeartbeats 8000000 in
theorem implReceiveBk (lo q : Nat) (ss : List Shf) (k : Int) (ds : List Doc) (e : Ev) (w : World) (h : BkO w lo q ss k ds) (hlo : lo ≤ w.heap.size) (hss : shsOk ss = true) :
    Calls Try.prog 85 #[.pointer (some ⟨q, 0, none⟩), evAgg e] w fun r w' => r = .returned (.bool (recvOk ss e.item e.q e.a)) ∧ (recvOk ss e.item e.q e.a = true → BkO w' lo q (recvSs ss e.item e.q e.a e.id) k ds) ∧ Below lo w w' ∧ Keeps (some q) w w' := by
  obtain ⟨sA, sn, sc, dA, dn, dc, hq, hlq, hbk⟩ := h
  obtain ⟨i0, hi, hz0, hz1, hz2⟩ := info_parts shfInfo
  obtain ⟨j0, hi', hz0', hz1', hz2'⟩ := info_parts intInfo
  have hl := Lib.hid hbk.shelves.len
  have n12 : sn ≤ 12 := by rw [← hl.out]; exact shsOk_len hss
  have SG := Lib.hid (shGood_lays hss e.item)
  have qs : q < w.heap.size := (Array.getElem?_eq_some_iff.1 hq).1
  have b0 := Lib.hid (below_box w (Obj.cells #[.int .i64 e.id, .int .i64 e.day, .int .i64 e.kind, .string e.item, .int .i64 e.q, .int .i64 e.a, .int .i64 e.r] 44))
  have E := Lib.hid (blk_new1 w (Obj.cells #[.int .i64 e.id, .int .i64 e.day, .int .i64 e.kind, .string e.item, .int .i64 e.q, .int .i64 e.a, .int .i64 e.r] 44))
  have Q := Lib.hid (blk_keep b0.out hq)
  have HB := Lib.hid (hbk.below b0.out)
  clear hq hbk
  have RW : Hid (recvOk ss e.item e.q e.a = (areLayers (recvL (shGet ss e.item).lays e.q e.a) && decide ((insSs ss e.item).length ≤ 12))) := rfl
  rcases shelfAt_cases ss e.item with ⟨h0, _⟩ | ⟨p, x, h0, hx, he, _⟩
  · have H0 := Lib.hid h0; clear h0
    have IL := Lib.hid (show (insSs ss e.item).length = sn + 1 by rw [insSs_len, H0.out, if_pos (by omega), hl.out])
    by_cases h12 : (12 : Int) ≤ sn
    · have R := Lib.hid (show recvOk ss e.item e.q e.a = false by rw [RW.out, IL.out, decide_eq_false (by omega), Bool.and_false])
      go_enter Try.func85, Try.ntmps85
      go_wp2_with fail
      have WS : (w.alloc (Obj.cells #[.int .i64 e.id, .int .i64 e.day, .int .i64 e.kind, .string e.item, .int .i64 e.q, .int .i64 e.a, .int .i64 e.r] 44)).heap.size = w.heap.size + 1 := by simp
      generalize w.alloc (Obj.cells #[.int .i64 e.id, .int .i64 e.day, .int .i64 e.kind, .string e.item, .int .i64 e.q, .int .i64 e.a, .int .i64 e.r] 44) = W at *
      replace WS := Lib.hid WS
      have q0 := blk_at Q.out (j := 0) rfl; have q1 := blk_at Q.out (j := 1) rfl; have q2 := blk_at Q.out (j := 2) rfl
      have e3 := (evCells E.out).2.2.2.1
      go_region_held3 (fun w' => w'.cell? ⟨q, 0, none⟩ = some (.slice sA sn sc) ∧ w'.cell? ⟨q, 1, none⟩ = some (.int .i64 k) ∧ w'.cell? ⟨q, 2, none⟩ = some (.slice dA dn dc) ∧ w'.cell? ⟨w.heap.size, 3, none⟩ = some (.string e.item))
        (first
          | go_keep
          | (go_split_ands; exact ⟨cell_keep hb1 q0, cell_keep hb1 q1, cell_keep hb1 q2, cell_keep hb1 e3⟩))
        (first | (go_at_call 53; refine (implShelfOf _ _ _ _ _ _ _ ss _ W.drew (HB.out.shelves.below (Below.refl _ _).drew) (by omega)).mono ?_; rw [H0.out]; rintro e' w1 ⟨rfl, hb1⟩))
      have B1 := Lib.hid (show Below W.heap.size W w1 from (Below.refl _ _).drew.trans hb1)
      have q0 := cell_keep hb1 q0
      go_wp2_with fail
      go_ret
      rw [R.out]
      exact ⟨rfl, (fun h => by cases h), (b0.out.mono hlo).trans (B1.out.mono (by rw [WS.out]; omega)), (Keeps.below b0.out).trans (Keeps.below B1.out)⟩
    · have R := Lib.hid (show recvOk ss e.item e.q e.a = areLayers (recvL (shGet ss e.item).lays e.q e.a) by rw [RW.out, IL.out, decide_eq_true (by omega), Bool.and_true])
      go_enter Try.func85, Try.ntmps85
      go_wp2_with fail
      have WS : (w.alloc (Obj.cells #[.int .i64 e.id, .int .i64 e.day, .int .i64 e.kind, .string e.item, .int .i64 e.q, .int .i64 e.a, .int .i64 e.r] 44)).heap.size = w.heap.size + 1 := by simp
      generalize w.alloc (Obj.cells #[.int .i64 e.id, .int .i64 e.day, .int .i64 e.kind, .string e.item, .int .i64 e.q, .int .i64 e.a, .int .i64 e.r] 44) = W at *
      replace WS := Lib.hid WS
      have q0 := blk_at Q.out (j := 0) rfl; have q1 := blk_at Q.out (j := 1) rfl; have q2 := blk_at Q.out (j := 2) rfl
      have e3 := (evCells E.out).2.2.2.1
      go_region_held3 (fun w' => w'.cell? ⟨q, 0, none⟩ = some (.slice sA sn sc) ∧ w'.cell? ⟨q, 1, none⟩ = some (.int .i64 k) ∧ w'.cell? ⟨q, 2, none⟩ = some (.slice dA dn dc) ∧ w'.cell? ⟨w.heap.size, 3, none⟩ = some (.string e.item))
        (first
          | go_keep
          | (go_split_ands; exact ⟨cell_keep hb1 q0, cell_keep hb1 q1, cell_keep hb1 q2, cell_keep hb1 e3⟩))
        (first | (go_at_call 53; refine (implShelfOf _ _ _ _ _ _ _ ss _ W.drew (HB.out.shelves.below (Below.refl _ _).drew) (by omega)).mono ?_; rw [H0.out]; rintro e' w1 ⟨rfl, hb1⟩))
      have B1 := Lib.hid (show Below W.heap.size W w1 from (Below.refl _ _).drew.trans hb1)
      have Q1 := Lib.hid (blk_keep B1.out Q.out); have E1 := Lib.hid (blk_keep B1.out E.out)
      clear q0 q1 q2 e3 hb1
      have q0 := blk_at Q1.out (j := 0) rfl
      go_wp2_with fail
      clear q0
      go_loopw [5] (fun i wr => ∃ j : Nat, j ≤ sn ∧ i = .int .i64 j ∧ Below w1.heap.size w1 wr ∧ Hid (∀ (i : Nat) (y : Shf), i < j → ss[i]? = some y → txtLess y.item e.item = true)) (fun i _ => sn - (intOf i).toNat)
      case atStart => exact ⟨0, Nat.zero_le _, rfl, Below.refl _ _, fun _ _ h => absurd h (Nat.not_lt_zero _)⟩
      case round =>
        obtain ⟨j, hj, rfl, hbj, hno⟩ := hrel
        have Qj := Lib.hid (blk_keep hbj Q1.out); have Ej := Lib.hid (blk_keep hbj E1.out)
        have q0 := blk_at Qj.out (j := 0) rfl
        have e3 := (evCells Ej.out).2.2.2.1
        have i1 : (0 : Int) ≤ j := by omega
        by_cases hlt : j < sn
        focus
          have i2 : (j : Int) < sn := by omega
          obtain ⟨g, off, rfl, ⟨item, ids, lays⟩, iA, iN, iC, lA, lN, lC, hx, c0, c1, c2, _, _⟩ := ((HB.out.shelves.below B1.out).below hbj).shAt hlt
          simp only at c0
          have HX := Lib.hid hx; clear hx
          cases hless : Op.bytesLess item.toList e.item.toList
          focus
            have CL := Lib.hid (cntLess_at hno.out HX.out hless)
            go_wp2_with fail
            go_quiet (fail)
            go_wp2_with fail
            clear hless i2 c0 c1 c2 HX
            generalize some (⟨g, off, none⟩ : Addr) = sA at *
          rotate_left
          focus
            have SL := Lib.hid (show ∀ (i : Nat) (y : Shf), i < j + 1 → ss[i]? = some y → txtLess y.item e.item = true from fun i y hi hy => by
              rcases Nat.lt_succ_iff_lt_or_eq.1 hi with h' | rfl
              · exact hno.out i y h' hy
              · rw [HX.out] at hy; injection hy with hy; rw [← hy]; exact hless)
            go_wp2_with fail
            go_quiet (fail)
            go_wp2_with fail
            go_roundw
            case rel => exact ⟨j + 1, by omega, by go_num, below_drewN hbj nq, SL.out⟩
            case measure => simp [intOf]; omega
        rotate_left
        focus
          have CL := Lib.hid (show cntLess ss e.item = j by rw [cntLess_all (fun i y hy => hno.out i y (by have := (List.getElem?_eq_some_iff.1 hy).1; rw [hl.out] at this; omega) hy), hl.out]; omega)
          have i2 : decide ((j : Int) < (sn : Int)) = false := decide_eq_false (by omega)
          go_wp2_with fail
          go_quiet (fail)
          go_wp2_with fail
          clear i2
        all_goals
          have IA := Lib.hid (show insAt ss e.item = j by rw [insAt, H0.out, if_pos (by omega), CL.out])
          have NS := Lib.hid (show insSs ss e.item = ss.take j ++ ⟨e.item, [], []⟩ :: ss.drop j by rw [insSs, H0.out, if_pos (by omega), CL.out])
          clear hlt q0 e3
          have BU := Lib.hid (below_drewN hbj nq)
          generalize wr.drewN nq = u at *
          have QU := Lib.hid (blk_keep BU.out Q1.out); have EU := Lib.hid (blk_keep BU.out E1.out)
          obtain ⟨us, hus, SO⟩ := ((HB.out.below B1.out).below BU.out).top
          obtain ⟨xs, o0, hone, PI⟩ := SO.putIn hj
          have US := Lib.hid hus; have PI' := Lib.hid PI
          clear hus PI SO
          obtain ⟨cap1, cap2⟩ := own_cap o0
          have q0 := blk_at QU.out (j := 0) rfl; have e3 := (evCells EU.out).2.2.2.1
          have jc : (j : Int) ≤ sc := by omega
          have jn : (j : Int) ≤ sn := by omega
          have zu : lo ≤ u.heap.size := by have := BU.out.size; have := B1.out.size; have := WS.out; omega
          have ON := own_new u.drew (base := u.heap.size) (e := 59) (size := 3) (n := 1) #[.string e.item, .slice none 0 0, .slice none 0 0] (Nat.le_refl _) (by unfold maxLen; omega) (by simp)
          have TL := RS.tail o0 hj
          refine wp_region_cut (S := fun w' => w'.cell? ⟨q, 0, none⟩ = some (.slice sA sn sc) ∧ w'.cell? ⟨w.heap.size, 3, none⟩ = some (.string e.item)) 21 (by kernel_rfl) (by kernel_rfl) (by simp only [List.pop_toArray, List.dropLast_cons_cons, List.dropLast_singleton]; rfl) ⟨q0, e3⟩ (fun hHeld => ?_)
          refine wpAnyH_take (i := 0) (oi := ?_) (v := ?_) (by simp only [List.getElem?_toArray, List.getElem?_cons_zero]; rfl) (by kernel_rfl) (by kernel_rfl) (by kernel_rfl) ?_ (Or.inl ⟨by rfl, ?_⟩) hHeld ?_
          rotate_left 1
          focus exact CutPost.panic fun _ _ _ h => h
          focus (intro w hSw; (try dsimp only at hSw); go_simp; try with_reducible rfl)
          (try simp only [Act.put, List.setIfInBounds_toArray, List.set_cons_zero, List.set_cons_succ])
          refine wpAnyH_take (i := 1) (oi := ?_) (v := ?_) (by simp only [List.getElem?_toArray, List.getElem?_cons_succ, List.getElem?_cons_zero]; rfl) (by kernel_rfl) (by kernel_rfl) (by kernel_rfl) ?_ (Or.inl ⟨by rfl, ?_⟩) hHeld ?_
          rotate_left 1
          focus exact CutPost.panic fun _ _ _ h => h
          focus (intro w hSw; (try dsimp only at hSw); go_simp; try with_reducible rfl)
          (try simp only [Act.put, List.setIfInBounds_toArray, List.set_cons_zero, List.set_cons_succ])
          refine wpAnyH_take (i := 2) (oi := ?_) (v := ?_) (by simp only [List.getElem?_toArray, List.getElem?_cons_succ, List.getElem?_cons_zero]; rfl) (by kernel_rfl) (by kernel_rfl) (by kernel_rfl) ?_ (Or.inl ⟨by rfl, ?_⟩) hHeld ?_
          rotate_left 1
          focus exact CutPost.panic fun _ _ _ h => h
          focus (intro w hSw; (try dsimp only at hSw); go_simp; try with_reducible rfl)
          (try simp only [Act.put, List.setIfInBounds_toArray, List.set_cons_zero, List.set_cons_succ])
          refine wpAnyH_take (i := 3) (oi := ?_) (v := ?_) (by simp only [List.getElem?_toArray, List.getElem?_cons_succ, List.getElem?_cons_zero]; rfl) (by kernel_rfl) (by kernel_rfl) (by kernel_rfl) ?_ (Or.inl ⟨by rfl, ?_⟩) hHeld ?_
          rotate_left 1
          focus exact CutPost.panic fun _ _ _ h => h
          focus (intro w hSw; (try dsimp only at hSw); go_simp; try with_reducible rfl)
          (try simp only [Act.put, List.setIfInBounds_toArray, List.set_cons_zero, List.set_cons_succ])
          refine wpAnyH_take (i := 4) (oi := ?_) (v := ?_) (by simp only [List.getElem?_toArray, List.getElem?_cons_succ, List.getElem?_cons_zero]; rfl) (by kernel_rfl) (by kernel_rfl) (by kernel_rfl) ?_ (Or.inl ⟨by rfl, ?_⟩) hHeld ?_
          rotate_left 1
          focus exact CutPost.panic fun _ _ _ h => h
          focus (intro w hSw; (try dsimp only at hSw); go_simp; try with_reducible rfl)
          (try simp only [Act.put, List.setIfInBounds_toArray, List.set_cons_zero, List.set_cons_succ])
          refine wpAnyH_take (i := 5) (oi := ?_) (v := ?_) (by simp only [List.getElem?_toArray, List.getElem?_cons_succ, List.getElem?_cons_zero]; rfl) (by kernel_rfl) (by kernel_rfl) (by kernel_rfl) ?_ (Or.inl ⟨by rfl, ?_⟩) hHeld ?_
          rotate_left 1
          focus exact CutPost.panic fun _ _ _ h => h
          focus (intro w hSw; (try dsimp only at hSw); go_simp; try with_reducible rfl)
          (try simp only [Act.put, List.setIfInBounds_toArray, List.set_cons_zero, List.set_cons_succ])
          refine wpAnyH_take (i := 6) (oi := ?_) (v := ?_) (by simp only [List.getElem?_toArray, List.getElem?_cons_succ, List.getElem?_cons_zero]; rfl) (by kernel_rfl) (by kernel_rfl) (by kernel_rfl) ?_ (Or.inl ⟨by rfl, ?_⟩) hHeld ?_
          rotate_left 1
          focus exact CutPost.panic fun _ _ _ h => h
          focus (intro w hSw; (try dsimp only at hSw); go_simp; try with_reducible rfl)
          (try simp only [Act.put, List.setIfInBounds_toArray, List.set_cons_zero, List.set_cons_succ])
          refine wpAnyH_take (i := 7) (oi := ?_) (v := ?_) (by simp only [List.getElem?_toArray, List.getElem?_cons_succ, List.getElem?_cons_zero]; rfl) (by kernel_rfl) (by kernel_rfl) (by kernel_rfl) ?_ (Or.inl ⟨by rfl, ?_⟩) hHeld ?_
          rotate_left 1
          focus exact CutPost.panic fun _ _ _ h => h
          focus (intro w hSw; (try dsimp only at hSw); go_simp; try with_reducible rfl)
          (try simp only [Act.put, List.setIfInBounds_toArray, List.set_cons_zero, List.set_cons_succ])
          refine wpAnyH_take (i := 8) (oi := ?_) (v := ?_) (by simp only [List.getElem?_toArray, List.getElem?_cons_succ, List.getElem?_cons_zero]; rfl) (by kernel_rfl) (by kernel_rfl) (by kernel_rfl) ?_ (Or.inl ⟨by rfl, ?_⟩) hHeld ?_
          rotate_left 1
          focus exact CutPost.panic fun _ _ _ h => h
          focus (intro w hSw; (try dsimp only at hSw); go_simp; try with_reducible rfl)
          (try simp only [Act.put, List.setIfInBounds_toArray, List.set_cons_zero, List.set_cons_succ])
          refine wpAnyH_take (i := 9) (oi := ?_) (v := ?_) (by simp only [List.getElem?_toArray, List.getElem?_cons_succ, List.getElem?_cons_zero]; rfl) (by kernel_rfl) (by kernel_rfl) (by kernel_rfl) ?_ (Or.inl ⟨by rfl, ?_⟩) hHeld ?_
          rotate_left 1
          focus exact CutPost.panic fun _ _ _ h => h
          focus (intro w hSw; (try dsimp only at hSw); go_simp; try with_reducible rfl)
          (try simp only [Act.put, List.setIfInBounds_toArray, List.set_cons_zero, List.set_cons_succ])
          refine wpAnyH_take (i := 11) (oi := ?_) (v := ?_) (by simp only [List.getElem?_toArray, List.getElem?_cons_succ, List.getElem?_cons_zero]; rfl) (by kernel_rfl) (by kernel_rfl) (by kernel_rfl) ?_ (Or.inl ⟨by rfl, ?_⟩) hHeld ?_
          rotate_left 1
          focus exact CutPost.panic fun _ _ _ h => h
          focus (intro w hSw; (try dsimp only at hSw); go_simp; try with_reducible rfl)
          (try simp only [Act.put, List.setIfInBounds_toArray, List.set_cons_zero, List.set_cons_succ])
          refine wpAnyH_take (i := 12) (oi := ?_) (v := ?_) (by simp only [List.getElem?_toArray, List.getElem?_cons_succ, List.getElem?_cons_zero]; rfl) (by kernel_rfl) (by kernel_rfl) (by kernel_rfl) ?_ (Or.inl ⟨by rfl, ?_⟩) hHeld ?_
          rotate_left 1
          focus exact CutPost.panic fun _ _ _ h => h
          focus (intro w hSw; (try dsimp only at hSw); go_simp; try with_reducible rfl)
          (try simp only [Act.put, List.setIfInBounds_toArray, List.set_cons_zero, List.set_cons_succ])
          refine wpAnyH_take (i := 13) (oi := ?_) (v := ?_) (by simp only [List.getElem?_toArray, List.getElem?_cons_succ, List.getElem?_cons_zero]; rfl) (by kernel_rfl) (by kernel_rfl) (by kernel_rfl) ?_ (Or.inl ⟨by rfl, ?_⟩) hHeld ?_
          rotate_left 1
          focus exact CutPost.panic fun _ _ _ h => h
          focus (intro w hSw; (try dsimp only at hSw); go_simp; try with_reducible rfl)
          (try simp only [Act.put, List.setIfInBounds_toArray, List.set_cons_zero, List.set_cons_succ])
          refine wpAnyH_take (i := 14) (oi := ?_) (v := ?_) (by simp only [List.getElem?_toArray, List.getElem?_cons_succ, List.getElem?_cons_zero]; rfl) (by kernel_rfl) (by kernel_rfl) (by kernel_rfl) ?_ (Or.inl ⟨by rfl, ?_⟩) hHeld ?_
          rotate_left 1
          focus exact CutPost.panic fun _ _ _ h => h
          focus (intro w hSw; (try dsimp only at hSw); go_simp; try with_reducible rfl)
          (try simp only [Act.put, List.setIfInBounds_toArray, List.set_cons_zero, List.set_cons_succ])
          refine wpAnyH_take (i := 15) (oi := ?_) (v := ?_) (by simp only [List.getElem?_toArray, List.getElem?_cons_succ, List.getElem?_cons_zero]; rfl) (by kernel_rfl) (by kernel_rfl) (by kernel_rfl) ?_ (Or.inl ⟨by rfl, ?_⟩) hHeld ?_
          rotate_left 1
          focus exact CutPost.panic fun _ _ _ h => h
          focus (intro w hSw; (try dsimp only at hSw); go_simp; try with_reducible rfl)
          (try simp only [Act.put, List.setIfInBounds_toArray, List.set_cons_zero, List.set_cons_succ])
          refine wpAnyH_take (i := 16) (oi := ?_) (v := ?_) (by simp only [List.getElem?_toArray, List.getElem?_cons_succ, List.getElem?_cons_zero]; rfl) (by kernel_rfl) (by kernel_rfl) (by kernel_rfl) ?_ (Or.inl ⟨by rfl, ?_⟩) hHeld ?_
          rotate_left 1
          focus exact CutPost.panic fun _ _ _ h => h
          focus (intro w hSw; (try dsimp only at hSw); go_simp; try with_reducible rfl)
          (try simp only [Act.put, List.setIfInBounds_toArray, List.set_cons_zero, List.set_cons_succ])
          refine wpAnyH_ready (rs := [10]) (by kernel_rfl) (by simp) ?_
          refine AllReadyH.cons (o := ?_) (by simp only [List.getElem?_toArray, List.getElem?_cons_succ, List.getElem?_cons_zero]; rfl) (fun K hK => ?_) AllReadyH.nil
          go_simp
          refine hK.out _ _ (⟨cell_alloc (show u.drew.cell? _ = _ from q0) _, cell_alloc (show u.drew.cell? _ = _ from e3) _⟩) (fun hHeld => ?_)
          clear hK K
          (try simp only [Act.put, List.setIfInBounds_toArray, List.set_cons_zero, List.set_cons_succ])
          refine wpAnyH_ready (rs := [17]) (by kernel_rfl) (by simp) ?_
          refine AllReadyH.cons (o := ?_) (by simp only [List.getElem?_toArray, List.getElem?_cons_succ, List.getElem?_cons_zero]; rfl) (fun K hK => ?_) AllReadyH.nil
          (refine step_app _ (by rfl) _ _ _ (by rfl) u.heap.size 59 i0 _ 3 64 Try.underlying28 hi hz0 hz1 hz2 rfl (by omega) (.slice (some ⟨u.heap.size, 0, none⟩) 1 1) 1 [.string e.item, .slice none 0 0, .slice none 0 0] (by rfl) ON _ (sn - j) _ (xs.drop (j * 3)) (by rfl) (TL.below ((Below.refl _ _).drew.alloc (Nat.le_refl _) _)) (fun x hx => hone x (List.mem_of_mem_drop hx)) (by unfold maxLen; omega) (by omega) (by simp) ?_; intro A7 c7 w7 o7 g7 at7 b7; have B7 : Hid (Below u.heap.size u w7) := Lib.hid (((Below.refl _ _).drew.alloc (Nat.le_refl _) _).trans b7))
          refine hK.out _ _ (⟨cell_keep B7.out q0, cell_keep B7.out e3⟩) (fun hHeld => ?_)
          clear hK K
          (try simp only [Act.put, List.setIfInBounds_toArray, List.set_cons_zero, List.set_cons_succ])
          refine wpAnyH_ready (rs := [18]) (by kernel_rfl) (by simp) ?_
          refine AllReadyH.cons (o := ?_) (by simp only [List.getElem?_toArray, List.getElem?_cons_succ, List.getElem?_cons_zero]; rfl) (fun K hK => ?_) AllReadyH.nil
          (refine step_app _ (by rfl) _ _ _ (by rfl) lo 59 i0 _ 3 64 Try.underlying28 hi hz0 hz1 hz2 rfl (by omega) (.slice sA j sc) j (xs.take (j * 3)) (by rfl) (own_prefix (own_below o0 B7.out) hj) A7 (1 + (sn - j)) c7 _ (by rfl) (RS.of_own o7) (fun x hx => (List.mem_append.1 hx).elim (fun h => svCell_one ⟨e.item, none, 0, 0, none, 0, 0⟩ x h) (fun h => hone x (List.mem_of_mem_drop h))) (by unfold maxLen; omega) (by omega) (Nat.le_trans zu B7.out.size) ?_; intro A8 c8 w8 o8 g8 at8 b8; have K8 : Hid (Keeps none w7 w8) := Lib.hid (Keeps.grown (own_prefix (own_below o0 B7.out) hj) g8 (by decide) (by decide)); have Q8 := Lib.hid (K8.out q _ _ (.inr ⟨rfl, by simp⟩) (blk_keep B7.out QU.out)); have E8 := Lib.hid (K8.out w.heap.size _ _ (.inl rfl) (blk_keep B7.out EU.out)); have q8 := blk_at Q8.out (j := 0) rfl; have f8 := blk_free Q8.out; have e8 := (evCells E8.out).2.2.2.1)
          refine hK.out _ _ (⟨q8, e8⟩) (fun hHeld => ?_)
          clear hK K
          (try simp only [Act.put, List.setIfInBounds_toArray, List.set_cons_zero, List.set_cons_succ])
          refine wpAnyH_take (i := 19) (oi := ?_) (v := ?_) (by simp only [List.getElem?_toArray, List.getElem?_cons_succ, List.getElem?_cons_zero]; rfl) (by kernel_rfl) (by kernel_rfl) (by kernel_rfl) ?_ (Or.inl ⟨by rfl, ?_⟩) hHeld ?_
          rotate_left 1
          focus exact CutPost.panic fun _ _ _ h => h
          focus (intro w hSw; (try dsimp only at hSw); go_simp; try with_reducible rfl)
          (try simp only [Act.put, List.setIfInBounds_toArray, List.set_cons_zero, List.set_cons_succ])
          refine wpAnyH_take (i := 20) (oi := ?_) (v := ?_) (by simp only [List.getElem?_toArray, List.getElem?_cons_succ, List.getElem?_cons_zero]; rfl) (by kernel_rfl) (by kernel_rfl) (by kernel_rfl) ?_ (Or.inl ⟨by rfl, ?_⟩) hHeld ?_
          rotate_left 1
          focus exact CutPost.panic fun _ _ _ h => h
          focus (intro w hSw; (try dsimp only at hSw); go_simp; try with_reducible rfl)
          (try simp only [Act.put, List.setIfInBounds_toArray, List.set_cons_zero, List.set_cons_succ])
          refine wpAnyH_done (by kernel_rfl) ?_ _
          refine CutPost.step (o := ?_) (by simp only [List.getElem?_toArray, List.getElem?_cons_succ, List.getElem?_cons_zero]; rfl) (fun K hK => ?_)
          go_simp
          refine hK _ _ ?_
          clear hK K
          (try simp only [Act.put, List.setIfInBounds_toArray, List.set_cons_zero, List.set_cons_succ])
          generalize (ite (sc = j) _ _ : Option Addr) = tA
          obtain ⟨m, hm⟩ : ∃ m, m = j + (1 + (sn - j)) := ⟨_, rfl⟩
          rw [← hm] at o8 at8 ⊢
          have m1 : m = sn + 1 := by omega
          have SO8 := PI'.out w8 A8 m c8 e.item (by rw [own_same sA sn sc j sc]; exact grown_pre B7.out g8) o8 m1 (by rw [own_same sA sn sc j sc]; exact at8.imp id fun h x hx => by rw [h] at hx; injection hx with hx; rw [← hx]; exact B7.out.size)
          rw [← NS.out] at SO8
          have BV := Lib.hid ((show BooksO w8 lo w8.heap.size _ _ _ _ _ _ from ⟨us, US.out, SO8⟩).setq (j := 0) (u := .slice A8 m c8) Q8.out rfl).top
          have QV := Lib.hid (heap_setCell_same w8 q 0 _ _ (.slice A8 m c8) Q8.out)
          have EV := Lib.hid ((Keeps.setq (j := 0) (u := .slice A8 m c8) Q8.out) _ _ _ (.inl rfl) E8.out)
          have bV := Lib.hid ((b0.out.mono hlo).trans ((B1.out.mono (by rw [WS.out]; omega)).trans ((BU.out.mono (by have := B1.out.size; have := WS.out; omega)).trans ((B7.out.mono zu).trans b8)))|>.setCell (p := ⟨q, 0, none⟩) hlq (.slice A8 m c8))
          have kV := Lib.hid ((Keeps.below b0.out).trans ((Keeps.below B1.out).trans ((Keeps.below BU.out).trans ((Keeps.below B7.out).trans ((K8.out.one q).trans (Keeps.setq (j := 0) (u := .slice A8 m c8) Q8.out))))))
          clear o8 SO8 g8 at8 b8 K8 Q8 E8 q8 f8 e8 o7 g7 at7 b7 B7 ON TL o0 hone PI' q0 e3 US
          obtain ⟨V, hV⟩ : ∃ V, V = w8.setCell ⟨q, 0, none⟩ (.slice A8 m c8) := ⟨_, rfl⟩
          rw [← hV] at BV QV EV bV kV ⊢
          clear hV
          have zV : lo ≤ V.heap.size := Nat.le_trans hlo bV.out.size
          obtain ⟨p, hp⟩ : ∃ p, p = j := ⟨_, rfl⟩
          rw [← hp] at IA ⊢
          have hpm : p < m := by omega
          have IL : Hid ((insSs ss e.item).length = m) := IL.out.trans m1.symm
          clear hp m1 hm hj jc jn cap1 cap2 NS CL hno hbj BU QU EU Q1 E1 B1 b0 E Q HB WS H0 RW i1
          have q0 := blk_at QV.out (j := 0) rfl
          obtain ⟨us, hus, SO⟩ := BV.out
          have US := Lib.hid hus; clear hus
          obtain ⟨g, rfl, hg1, hg2, ⟨cs, hcs⟩, hgf, s, iA, iC, lA, lC, hs, c0, c1, c2, oi, rl, RELAY, _⟩ := SO.shelf hpm zV
          obtain ⟨gg, ge⟩ := ins_get ss e.item
          rw [IA.out] at gg
          rw [gg] at hs
          obtain rfl := Option.some.inj hs
          obtain ⟨s, hS⟩ : ∃ s, shGet ss e.item = s := ⟨_, rfl⟩
          obtain ⟨sg1, sg2⟩ := SG.out
          have RS0 : recvSs ss e.item e.q e.a e.id = (insSs ss e.item).set p ⟨s.item, s.ids ++ [e.id], recvL s.lays e.q e.a⟩ := by rw [recvSs, IA.out, hS, ← ge, hS]
          have RS' := Lib.hid RS0
          clear RS0 hs
          rw [hS] at R RELAY rl oi c0 c1 c2 ge gg sg1 sg2
          have GG := Lib.hid gg; have RL := Lib.hid RELAY; have HS := Lib.hid hS
          clear gg RELAY hS
          have i1 : (0 : Int) ≤ p := by omega
          have i2 : (p : Int) < m := by omega
          have e4 := (evCells EV.out).2.2.2.2.1; have e5 := (evCells EV.out).2.2.2.2.2.1; have e0 := (evCells EV.out).1
          cases ha : areLayers (recvL s.lays e.q e.a)
          · have HA := Lib.hid ha; clear ha
            rw [HA.out] at R
            have RO : recvOut s.lays e.q e.a = [] := by simp [recvOut, HA.out]
            have RN : ([] : List Lay).length = 0 := rfl
            go_wp2_with fail
            go_region_held3 (fun w' => w'.cell? ⟨g, p * 3 + 2, none⟩ = some (.slice lA s.lays.length lC) ∧ w'.cell? ⟨w.heap.size, 4, none⟩ = some (.int .i64 e.q) ∧ w'.cell? ⟨w.heap.size, 5, none⟩ = some (.int .i64 e.a))
              (first
                | go_keep
                | (go_split_ands; exact ⟨cell_keep hb2 c2, cell_keep hb2 e4, cell_keep hb2 e5⟩))
              (first | (go_at_call 114; refine (implReceive _ _ _ s.lays _ _ V.drew (rl.drewN 1) (by omega)).mono ?_; rw [HA.out, RO, RN]; rintro e' w2 ⟨A2, c2', rfl, o2, hb2⟩))
            have B2 := Lib.hid (show Below V.heap.size V w2 from (Below.refl _ _).drew.trans hb2)
            go_wp2_with fail
            go_ret
            rw [R.out]
            exact ⟨rfl, (fun h => by cases h), bV.out.trans (B2.out.mono zV), kV.out.trans (Keeps.below B2.out)⟩
          · have HA := Lib.hid ha; clear ha
            rw [HA.out] at R
            have RO : recvOut s.lays e.q e.a = recvL s.lays e.q e.a := by simp [recvOut, HA.out]
            have RN : (recvL s.lays e.q e.a).length = s.lays.length + 1 := by simp [recvL]
            go_wp2_with fail
            go_region_held3 (fun w' => w'.cell? ⟨g, p * 3 + 2, none⟩ = some (.slice lA s.lays.length lC) ∧ w'.cell? ⟨w.heap.size, 4, none⟩ = some (.int .i64 e.q) ∧ w'.cell? ⟨w.heap.size, 5, none⟩ = some (.int .i64 e.a))
              (first
                | go_keep
                | (go_split_ands; exact ⟨cell_keep hb2 c2, cell_keep hb2 e4, cell_keep hb2 e5⟩))
              (first | (go_at_call 114; refine (implReceive _ _ _ s.lays _ _ V.drew (rl.drewN 1) (by omega)).mono ?_; rw [HA.out, RO, RN]; rintro e' w2 ⟨A2, c2', rfl, o2, hb2⟩))
            have B2 := Lib.hid (show Below V.heap.size V w2 from (Below.refl _ _).drew.trans hb2)
            have E2 := Lib.hid (blk_keep B2.out EV.out); have Q2 := Lib.hid (blk_keep B2.out QV.out)
            have hcs2 := Lib.hid (blk_keep B2.out hcs)
            have SO2 := Lib.hid (RL.out w2 A2 (s.lays.length + 1) c2' (recvL s.lays e.q e.a) B2.out o2).top
            have C2 := cell_keep B2.out c2; have f2 := blk_free hcs2.out
            clear c0 c1 c2 e0 e4 e5 q0 o2 hb2 oi rl RO RN
            go_wp2_with fail
            have K2 := Lib.hid (Keeps.set (q := none) (u := .slice A2 (s.lays.length + 1) c2') (p := ⟨g, p * 3 + 2, none⟩) hcs2.out (by decide) (by decide))
            have E3 := Lib.hid (K2.out _ _ _ (.inl rfl) E2.out); have Q3 := Lib.hid (K2.out _ _ _ (.inr ⟨rfl, by simp⟩) Q2.out)
            have b3 := Lib.hid ((bV.out.trans (B2.out.mono zV)).setCell (p := ⟨g, p * 3 + 2, none⟩) hg1 (.slice A2 (s.lays.length + 1) c2'))
            have k3 := Lib.hid ((kV.out.trans (Keeps.below B2.out)).trans (K2.out.one q))
            obtain ⟨V2, hV2⟩ : ∃ V2, V2 = w2.setCell ⟨g, p * 3 + 2, none⟩ (.slice A2 (s.lays.length + 1) c2') := ⟨_, rfl⟩
            rw [← hV2] at SO2 E3 Q3 b3 k3 ⊢
            clear hV2 K2 C2 f2
            have z2 : lo ≤ V2.heap.size := Nat.le_trans hlo b3.out.size
            obtain ⟨g', hA', _, hg2', ⟨cs', hcs'⟩, hgf', s', iA', iC', lA', lC', hs', d0, d1, d2, oi, _, _, REID⟩ := SO2.out.shelf hpm z2
            obtain rfl : g = g' := by injection hA' with h; injection h
            rw [List.getElem?_set_self (by rw [IL.out]; exact hpm)] at hs'
            obtain rfl := Option.some.inj hs'
            have RI := Lib.hid REID; have CS := Lib.hid hcs'
            clear REID hA' hs' d0 d2 SO2 hcs'
            simp only at d1 oi
            have e0 := (evCells E3.out).1
            have f3 := blk_free CS.out
            refine wp_region_cut (S := fun w' => w'.cell? ⟨g, p * 3 + 1, none⟩ = some (.slice iA' s.ids.length iC') ∧ w'.cell? ⟨w.heap.size, 0, none⟩ = some (.int .i64 e.id)) 11 (by kernel_rfl) (by kernel_rfl) (by simp only [List.pop_toArray, List.dropLast_cons_cons, List.dropLast_singleton]; rfl) ⟨d1, e0⟩ (fun hHeld => ?_)
            refine wpAnyH_take (i := 0) (oi := ?_) (v := ?_) (by simp only [List.getElem?_toArray, List.getElem?_cons_zero]; rfl) (by kernel_rfl) (by kernel_rfl) (by kernel_rfl) ?_ (Or.inl ⟨by rfl, ?_⟩) hHeld ?_
            rotate_left 1
            focus exact CutPost.panic fun _ _ _ h => h
            focus (intro w hSw; (try dsimp only at hSw); go_simp; try with_reducible rfl)
            (try simp only [Act.put, List.setIfInBounds_toArray, List.set_cons_zero, List.set_cons_succ])
            refine wpAnyH_take (i := 1) (oi := ?_) (v := ?_) (by simp only [List.getElem?_toArray, List.getElem?_cons_succ, List.getElem?_cons_zero]; rfl) (by kernel_rfl) (by kernel_rfl) (by kernel_rfl) ?_ (Or.inl ⟨by rfl, ?_⟩) hHeld ?_
            rotate_left 1
            focus exact CutPost.panic fun _ _ _ h => h
            focus (intro w hSw; (try dsimp only at hSw); go_simp; try with_reducible rfl)
            (try simp only [Act.put, List.setIfInBounds_toArray, List.set_cons_zero, List.set_cons_succ])
            refine wpAnyH_take (i := 2) (oi := ?_) (v := ?_) (by simp only [List.getElem?_toArray, List.getElem?_cons_succ, List.getElem?_cons_zero]; rfl) (by kernel_rfl) (by kernel_rfl) (by kernel_rfl) ?_ (Or.inl ⟨by rfl, ?_⟩) hHeld ?_
            rotate_left 1
            focus exact CutPost.panic fun _ _ _ h => h
            focus (intro w hSw; (try dsimp only at hSw); go_simp; try with_reducible rfl)
            (try simp only [Act.put, List.setIfInBounds_toArray, List.set_cons_zero, List.set_cons_succ])
            refine wpAnyH_take (i := 3) (oi := ?_) (v := ?_) (by simp only [List.getElem?_toArray, List.getElem?_cons_succ, List.getElem?_cons_zero]; rfl) (by kernel_rfl) (by kernel_rfl) (by kernel_rfl) ?_ (Or.inl ⟨by rfl, ?_⟩) hHeld ?_
            rotate_left 1
            focus exact CutPost.panic fun _ _ _ h => h
            focus (intro w hSw; (try dsimp only at hSw); go_simp; try with_reducible rfl)
            (try simp only [Act.put, List.setIfInBounds_toArray, List.set_cons_zero, List.set_cons_succ])
            refine wpAnyH_take (i := 4) (oi := ?_) (v := ?_) (by simp only [List.getElem?_toArray, List.getElem?_cons_succ, List.getElem?_cons_zero]; rfl) (by kernel_rfl) (by kernel_rfl) (by kernel_rfl) ?_ (Or.inl ⟨by rfl, ?_⟩) hHeld ?_
            rotate_left 1
            focus exact CutPost.panic fun _ _ _ h => h
            focus (intro w hSw; (try dsimp only at hSw); go_simp; try with_reducible rfl)
            (try simp only [Act.put, List.setIfInBounds_toArray, List.set_cons_zero, List.set_cons_succ])
            refine wpAnyH_take (i := 5) (oi := ?_) (v := ?_) (by simp only [List.getElem?_toArray, List.getElem?_cons_succ, List.getElem?_cons_zero]; rfl) (by kernel_rfl) (by kernel_rfl) (by kernel_rfl) ?_ (Or.inl ⟨by rfl, ?_⟩) hHeld ?_
            rotate_left 1
            focus exact CutPost.panic fun _ _ _ h => h
            focus (intro w hSw; (try dsimp only at hSw); go_simp; try with_reducible rfl)
            (try simp only [Act.put, List.setIfInBounds_toArray, List.set_cons_zero, List.set_cons_succ])
            refine wpAnyH_take (i := 6) (oi := ?_) (v := ?_) (by simp only [List.getElem?_toArray, List.getElem?_cons_succ, List.getElem?_cons_zero]; rfl) (by kernel_rfl) (by kernel_rfl) (by kernel_rfl) ?_ (Or.inl ⟨by rfl, ?_⟩) hHeld ?_
            rotate_left 1
            focus exact CutPost.panic fun _ _ _ h => h
            focus (intro w hSw; (try dsimp only at hSw); go_simp; try with_reducible rfl)
            (try simp only [Act.put, List.setIfInBounds_toArray, List.set_cons_zero, List.set_cons_succ])
            refine wpAnyH_ready (rs := [7]) (by kernel_rfl) (by simp) ?_
            refine AllReadyH.cons (o := ?_) (by simp only [List.getElem?_toArray, List.getElem?_cons_succ, List.getElem?_cons_zero]; rfl) (fun K hK => ?_) AllReadyH.nil
            go_simp
            refine hK.out _ _ (⟨cell_alloc (show V2.drew.cell? _ = _ from d1) _, cell_alloc (show V2.drew.cell? _ = _ from e0) _⟩) (fun hHeld => ?_)
            clear hK K
            (try simp only [Act.put, List.setIfInBounds_toArray, List.set_cons_zero, List.set_cons_succ])
            refine wpAnyH_ready (rs := [8]) (by kernel_rfl) (by simp) ?_
            refine AllReadyH.cons (o := ?_) (by simp only [List.getElem?_toArray, List.getElem?_cons_succ, List.getElem?_cons_zero]; rfl) (fun K hK => ?_) AllReadyH.nil
            (refine step_app _ (by rfl) _ _ _ (by rfl) lo 3 j0 _ 1 8 Try.underlying56 hi' hz0' hz1' hz2' rfl (by omega) (.slice iA' s.ids.length iC') s.ids.length (intCells s.ids) (by rfl) (oi.drew.alloc _) _ 1 1 [.int .i64 e.id] (by rfl) (by first | exact RS_new (by simp) | exact (RS_new (by simp)).drewN 1) (by simp [Value.oneCell']) (by unfold maxLen; omega) (by omega) (Nat.le_trans z2 (Below.size (Below.drew (below_box V2 _)))) ?_; intro A6 c6 w6 o6 g6 at6 b6; have BX : Hid (Below V2.heap.size V2 (V2.drew.alloc (Obj.cells #[.int .i64 e.id] 3))) := Lib.hid ((Below.refl _ _).drew.alloc (Nat.le_refl _) _); have G6 := Lib.hid (grown_pre BX.out g6); have K6 := Lib.hid (Keeps.grown (q := none) oi G6.out (by decide) (by decide)); have E6 := Lib.hid (K6.out _ _ _ (.inl rfl) E3.out); have Q6 := Lib.hid (K6.out _ _ _ (.inr ⟨rfl, by simp⟩) Q3.out); have e6 := (evCells E6.out).1; have CS6 := Lib.hid ((G6.out.block g hg2' (fun h => own_ne_type oi CS.out (by decide) h.symm)).trans CS.out); have d6 := (World.cell?_of_block (a := ⟨g, p * 3 + 1, none⟩) (G6.out.block g hg2' (fun h => own_ne_type oi CS.out (by decide) h.symm))).trans d1; have f6 := blk_free CS6.out)
            refine hK.out _ _ (⟨d6, e6⟩) (fun hHeld => ?_)
            clear hK K
            (try simp only [Act.put, List.setIfInBounds_toArray, List.set_cons_zero, List.set_cons_succ])
            refine wpAnyH_take (i := 9) (oi := ?_) (v := ?_) (by simp only [List.getElem?_toArray, List.getElem?_cons_succ, List.getElem?_cons_zero]; rfl) (by kernel_rfl) (by kernel_rfl) (by kernel_rfl) ?_ (Or.inl ⟨by rfl, ?_⟩) hHeld ?_
            rotate_left 1
            focus exact CutPost.panic fun _ _ _ h => h
            focus (intro w hSw; (try dsimp only at hSw); go_simp; try with_reducible rfl)
            (try simp only [Act.put, List.setIfInBounds_toArray, List.set_cons_zero, List.set_cons_succ])
            refine wpAnyH_take (i := 10) (oi := ?_) (v := ?_) (by simp only [List.getElem?_toArray, List.getElem?_cons_succ, List.getElem?_cons_zero]; rfl) (by kernel_rfl) (by kernel_rfl) (by kernel_rfl) ?_ (Or.inl ⟨by rfl, ?_⟩) hHeld ?_
            rotate_left 1
            focus exact CutPost.panic fun _ _ _ h => h
            focus (intro w hSw; (try dsimp only at hSw); go_simp; try with_reducible rfl)
            (try simp only [Act.put, List.setIfInBounds_toArray, List.set_cons_zero, List.set_cons_succ])
            refine wpAnyH_done (by kernel_rfl) ?_ _
            refine CutPost.step (o := ?_) (by simp only [List.getElem?_toArray, List.getElem?_cons_succ, List.getElem?_cons_zero]; rfl) (fun K hK => ?_)
            go_simp
            refine hK _ _ ?_
            clear hK K
            (try simp only [Act.put, List.setIfInBounds_toArray, List.set_cons_zero, List.set_cons_succ])
            have O6 : w6.ownsRow lo 3 1 (.slice A6 (s.ids.length + 1) c6) (s.ids.length + 1) (intCells (s.ids ++ [e.id])) := by simpa [intCells] using o6
            have SOF := Lib.hid (RI.out w6 A6 (s.ids.length + 1) c6 (s.ids ++ [e.id]) G6.out O6 (at6.imp id fun h x hx => by rw [h] at hx; injection hx with hx; rw [← hx]; exact BX.out.size)).top
            have K9 := Lib.hid (Keeps.set (q := none) (u := .slice A6 (s.ids.length + 1) c6) (p := ⟨g, p * 3 + 1, none⟩) CS6.out (by decide) (by decide))
            have QF := Lib.hid (K9.out _ _ _ (.inr ⟨rfl, by simp⟩) Q6.out)
            have bF := Lib.hid ((b3.out.trans ((BX.out.mono z2).trans b6)).setCell (p := ⟨g, p * 3 + 1, none⟩) hg1 (.slice A6 (s.ids.length + 1) c6))
            have kF := Lib.hid (k3.out.trans ((K6.out.one q).trans (K9.out.one q)))
            clear o6 g6 at6 b6 O6 d6 e6 f6 d1 e0 f3 oi G6 K6 K9
            go_wp2_with fail
            go_ret
            rw [R.out, RS'.out]
            refine ⟨rfl, fun _ => ⟨_, m, _, dA, dn, dc, QF.out, hlq, us, US.out, ?_⟩, bF.out, kF.out⟩
            have := SOF.out
            rw [List.set_set] at this
            exact this
  · have H0 := Lib.hid h0; clear h0
    have hp := (List.getElem?_eq_some_iff.1 hx).1
    have NS := Lib.hid (show insSs ss e.item = ss by rw [insSs, H0.out, if_neg (by omega)])
    have IL := Lib.hid (show (insSs ss e.item).length = sn by rw [NS.out, hl.out])
    have IA := Lib.hid (show insAt ss e.item = p by rw [insAt, H0.out, if_neg (by omega)]; simp)
    have R := Lib.hid (show recvOk ss e.item e.q e.a = areLayers (recvL (shGet ss e.item).lays e.q e.a) by rw [RW.out, IL.out, decide_eq_true (by omega), Bool.and_true])
    have hpm : p < sn := by rw [← hl.out]; exact hp
    clear hx he hp
    go_enter Try.func85, Try.ntmps85
    go_wp2_with fail
    have WS : (w.alloc (Obj.cells #[.int .i64 e.id, .int .i64 e.day, .int .i64 e.kind, .string e.item, .int .i64 e.q, .int .i64 e.a, .int .i64 e.r] 44)).heap.size = w.heap.size + 1 := by simp
    generalize w.alloc (Obj.cells #[.int .i64 e.id, .int .i64 e.day, .int .i64 e.kind, .string e.item, .int .i64 e.q, .int .i64 e.a, .int .i64 e.r] 44) = W at *
    replace WS := Lib.hid WS
    have q0 := blk_at Q.out (j := 0) rfl; have q1 := blk_at Q.out (j := 1) rfl; have q2 := blk_at Q.out (j := 2) rfl
    have e3 := (evCells E.out).2.2.2.1
    go_region_held3 (fun w' => w'.cell? ⟨q, 0, none⟩ = some (.slice sA sn sc) ∧ w'.cell? ⟨q, 1, none⟩ = some (.int .i64 k) ∧ w'.cell? ⟨q, 2, none⟩ = some (.slice dA dn dc) ∧ w'.cell? ⟨w.heap.size, 3, none⟩ = some (.string e.item))
      (first
        | go_keep
        | (go_split_ands; exact ⟨cell_keep hb1 q0, cell_keep hb1 q1, cell_keep hb1 q2, cell_keep hb1 e3⟩))
      (first | (go_at_call 53; refine (implShelfOf _ _ _ _ _ _ _ ss _ W.drew (HB.out.shelves.below (Below.refl _ _).drew) (by omega)).mono ?_; rw [H0.out]; rintro e' V ⟨rfl, hb1⟩))
    have B1 := Lib.hid (show Below W.heap.size W V from (Below.refl _ _).drew.trans hb1)
    have QV := Lib.hid (blk_keep B1.out Q.out); have EV := Lib.hid (blk_keep B1.out E.out)
    have BV : Hid (BooksO V lo V.heap.size (.slice sA sn sc) sn (insSs ss e.item) (.slice dA dn dc) dn ds) := Lib.hid (by rw [NS.out]; exact (HB.out.below B1.out).top)
    have bV := Lib.hid ((b0.out.mono hlo).trans (B1.out.mono (by rw [WS.out]; omega)))
    have kV := Lib.hid ((Keeps.below (q := some q) b0.out).trans (Keeps.below B1.out))
    have zV : lo ≤ V.heap.size := Nat.le_trans hlo bV.out.size
    obtain ⟨m, hm⟩ : ∃ m, m = sn := ⟨_, rfl⟩
    rw [← hm] at BV QV IL hpm
    have m1 : m ≤ 12 := by omega
    clear q0 q1 q2 e3 hb1 B1 b0 E Q HB WS H0 RW NS
    subst hm
    have i0' : ¬ (p : Int) < 0 := by omega
    have q0 := blk_at QV.out (j := 0) rfl
    obtain ⟨us, hus, SO⟩ := BV.out
    have US := Lib.hid hus; clear hus
    obtain ⟨g, rfl, hg1, hg2, ⟨cs, hcs⟩, hgf, s, iA, iC, lA, lC, hs, c0, c1, c2, oi, rl, RELAY, _⟩ := SO.shelf hpm zV
    obtain ⟨gg, ge⟩ := ins_get ss e.item
    rw [IA.out] at gg
    rw [gg] at hs
    obtain rfl := Option.some.inj hs
    obtain ⟨s, hS⟩ : ∃ s, shGet ss e.item = s := ⟨_, rfl⟩
    obtain ⟨sg1, sg2⟩ := SG.out
    have RS0 : recvSs ss e.item e.q e.a e.id = (insSs ss e.item).set p ⟨s.item, s.ids ++ [e.id], recvL s.lays e.q e.a⟩ := by rw [recvSs, IA.out, hS, ← ge, hS]
    have RS' := Lib.hid RS0
    clear RS0 hs
    rw [hS] at R RELAY rl oi c0 c1 c2 ge gg sg1 sg2
    have GG := Lib.hid gg; have RL := Lib.hid RELAY; have HS := Lib.hid hS
    clear gg RELAY hS
    have i1 : (0 : Int) ≤ p := by omega
    have i2 : (p : Int) < m := by omega
    have e4 := (evCells EV.out).2.2.2.2.1; have e5 := (evCells EV.out).2.2.2.2.2.1; have e0 := (evCells EV.out).1
    cases ha : areLayers (recvL s.lays e.q e.a)
    · have HA := Lib.hid ha; clear ha
      rw [HA.out] at R
      have RO : recvOut s.lays e.q e.a = [] := by simp [recvOut, HA.out]
      have RN : ([] : List Lay).length = 0 := rfl
      go_wp2_with fail
      go_region_held3 (fun w' => w'.cell? ⟨g, p * 3 + 2, none⟩ = some (.slice lA s.lays.length lC) ∧ w'.cell? ⟨w.heap.size, 4, none⟩ = some (.int .i64 e.q) ∧ w'.cell? ⟨w.heap.size, 5, none⟩ = some (.int .i64 e.a))
        (first
          | go_keep
          | (go_split_ands; exact ⟨cell_keep hb2 c2, cell_keep hb2 e4, cell_keep hb2 e5⟩))
        (first | (go_at_call 114; refine (implReceive _ _ _ s.lays _ _ V.drew (rl.drewN 1) (by omega)).mono ?_; rw [HA.out, RO, RN]; rintro e' w2 ⟨A2, c2', rfl, o2, hb2⟩))
      have B2 := Lib.hid (show Below V.heap.size V w2 from (Below.refl _ _).drew.trans hb2)
      go_wp2_with fail
      go_ret
      rw [R.out]
      exact ⟨rfl, (fun h => by cases h), bV.out.trans (B2.out.mono zV), kV.out.trans (Keeps.below B2.out)⟩
    · have HA := Lib.hid ha; clear ha
      rw [HA.out] at R
      have RO : recvOut s.lays e.q e.a = recvL s.lays e.q e.a := by simp [recvOut, HA.out]
      have RN : (recvL s.lays e.q e.a).length = s.lays.length + 1 := by simp [recvL]
      go_wp2_with fail
      go_region_held3 (fun w' => w'.cell? ⟨g, p * 3 + 2, none⟩ = some (.slice lA s.lays.length lC) ∧ w'.cell? ⟨w.heap.size, 4, none⟩ = some (.int .i64 e.q) ∧ w'.cell? ⟨w.heap.size, 5, none⟩ = some (.int .i64 e.a))
        (first
          | go_keep
          | (go_split_ands; exact ⟨cell_keep hb2 c2, cell_keep hb2 e4, cell_keep hb2 e5⟩))
        (first | (go_at_call 114; refine (implReceive _ _ _ s.lays _ _ V.drew (rl.drewN 1) (by omega)).mono ?_; rw [HA.out, RO, RN]; rintro e' w2 ⟨A2, c2', rfl, o2, hb2⟩))
      have B2 := Lib.hid (show Below V.heap.size V w2 from (Below.refl _ _).drew.trans hb2)
      have E2 := Lib.hid (blk_keep B2.out EV.out); have Q2 := Lib.hid (blk_keep B2.out QV.out)
      have hcs2 := Lib.hid (blk_keep B2.out hcs)
      have SO2 := Lib.hid (RL.out w2 A2 (s.lays.length + 1) c2' (recvL s.lays e.q e.a) B2.out o2).top
      have C2 := cell_keep B2.out c2; have f2 := blk_free hcs2.out
      clear c0 c1 c2 e0 e4 e5 q0 o2 hb2 oi rl RO RN
      go_wp2_with fail
      have K2 := Lib.hid (Keeps.set (q := none) (u := .slice A2 (s.lays.length + 1) c2') (p := ⟨g, p * 3 + 2, none⟩) hcs2.out (by decide) (by decide))
      have E3 := Lib.hid (K2.out _ _ _ (.inl rfl) E2.out); have Q3 := Lib.hid (K2.out _ _ _ (.inr ⟨rfl, by simp⟩) Q2.out)
      have b3 := Lib.hid ((bV.out.trans (B2.out.mono zV)).setCell (p := ⟨g, p * 3 + 2, none⟩) hg1 (.slice A2 (s.lays.length + 1) c2'))
      have k3 := Lib.hid ((kV.out.trans (Keeps.below B2.out)).trans (K2.out.one q))
      obtain ⟨V2, hV2⟩ : ∃ V2, V2 = w2.setCell ⟨g, p * 3 + 2, none⟩ (.slice A2 (s.lays.length + 1) c2') := ⟨_, rfl⟩
      rw [← hV2] at SO2 E3 Q3 b3 k3 ⊢
      clear hV2 K2 C2 f2
      have z2 : lo ≤ V2.heap.size := Nat.le_trans hlo b3.out.size
      obtain ⟨g', hA', _, hg2', ⟨cs', hcs'⟩, hgf', s', iA', iC', lA', lC', hs', d0, d1, d2, oi, _, _, REID⟩ := SO2.out.shelf hpm z2
      obtain rfl : g = g' := by injection hA' with h; injection h
      rw [List.getElem?_set_self (by rw [IL.out]; exact hpm)] at hs'
      obtain rfl := Option.some.inj hs'
      have RI := Lib.hid REID; have CS := Lib.hid hcs'
      clear REID hA' hs' d0 d2 SO2 hcs'
      simp only at d1 oi
      have e0 := (evCells E3.out).1
      have f3 := blk_free CS.out
      refine wp_region_cut (S := fun w' => w'.cell? ⟨g, p * 3 + 1, none⟩ = some (.slice iA' s.ids.length iC') ∧ w'.cell? ⟨w.heap.size, 0, none⟩ = some (.int .i64 e.id)) 11 (by kernel_rfl) (by kernel_rfl) (by simp only [List.pop_toArray, List.dropLast_cons_cons, List.dropLast_singleton]; rfl) ⟨d1, e0⟩ (fun hHeld => ?_)
      refine wpAnyH_take (i := 0) (oi := ?_) (v := ?_) (by simp only [List.getElem?_toArray, List.getElem?_cons_zero]; rfl) (by kernel_rfl) (by kernel_rfl) (by kernel_rfl) ?_ (Or.inl ⟨by rfl, ?_⟩) hHeld ?_
      rotate_left 1
      focus exact CutPost.panic fun _ _ _ h => h
      focus (intro w hSw; (try dsimp only at hSw); go_simp; try with_reducible rfl)
      (try simp only [Act.put, List.setIfInBounds_toArray, List.set_cons_zero, List.set_cons_succ])
      refine wpAnyH_take (i := 1) (oi := ?_) (v := ?_) (by simp only [List.getElem?_toArray, List.getElem?_cons_succ, List.getElem?_cons_zero]; rfl) (by kernel_rfl) (by kernel_rfl) (by kernel_rfl) ?_ (Or.inl ⟨by rfl, ?_⟩) hHeld ?_
      rotate_left 1
      focus exact CutPost.panic fun _ _ _ h => h
      focus (intro w hSw; (try dsimp only at hSw); go_simp; try with_reducible rfl)
      (try simp only [Act.put, List.setIfInBounds_toArray, List.set_cons_zero, List.set_cons_succ])
      refine wpAnyH_take (i := 2) (oi := ?_) (v := ?_) (by simp only [List.getElem?_toArray, List.getElem?_cons_succ, List.getElem?_cons_zero]; rfl) (by kernel_rfl) (by kernel_rfl) (by kernel_rfl) ?_ (Or.inl ⟨by rfl, ?_⟩) hHeld ?_
      rotate_left 1
      focus exact CutPost.panic fun _ _ _ h => h
      focus (intro w hSw; (try dsimp only at hSw); go_simp; try with_reducible rfl)
      (try simp only [Act.put, List.setIfInBounds_toArray, List.set_cons_zero, List.set_cons_succ])
      refine wpAnyH_take (i := 3) (oi := ?_) (v := ?_) (by simp only [List.getElem?_toArray, List.getElem?_cons_succ, List.getElem?_cons_zero]; rfl) (by kernel_rfl) (by kernel_rfl) (by kernel_rfl) ?_ (Or.inl ⟨by rfl, ?_⟩) hHeld ?_
      rotate_left 1
      focus exact CutPost.panic fun _ _ _ h => h
      focus (intro w hSw; (try dsimp only at hSw); go_simp; try with_reducible rfl)
      (try simp only [Act.put, List.setIfInBounds_toArray, List.set_cons_zero, List.set_cons_succ])
      refine wpAnyH_take (i := 4) (oi := ?_) (v := ?_) (by simp only [List.getElem?_toArray, List.getElem?_cons_succ, List.getElem?_cons_zero]; rfl) (by kernel_rfl) (by kernel_rfl) (by kernel_rfl) ?_ (Or.inl ⟨by rfl, ?_⟩) hHeld ?_
      rotate_left 1
      focus exact CutPost.panic fun _ _ _ h => h
      focus (intro w hSw; (try dsimp only at hSw); go_simp; try with_reducible rfl)
      (try simp only [Act.put, List.setIfInBounds_toArray, List.set_cons_zero, List.set_cons_succ])
      refine wpAnyH_take (i := 5) (oi := ?_) (v := ?_) (by simp only [List.getElem?_toArray, List.getElem?_cons_succ, List.getElem?_cons_zero]; rfl) (by kernel_rfl) (by kernel_rfl) (by kernel_rfl) ?_ (Or.inl ⟨by rfl, ?_⟩) hHeld ?_
      rotate_left 1
      focus exact CutPost.panic fun _ _ _ h => h
      focus (intro w hSw; (try dsimp only at hSw); go_simp; try with_reducible rfl)
      (try simp only [Act.put, List.setIfInBounds_toArray, List.set_cons_zero, List.set_cons_succ])
      refine wpAnyH_take (i := 6) (oi := ?_) (v := ?_) (by simp only [List.getElem?_toArray, List.getElem?_cons_succ, List.getElem?_cons_zero]; rfl) (by kernel_rfl) (by kernel_rfl) (by kernel_rfl) ?_ (Or.inl ⟨by rfl, ?_⟩) hHeld ?_
      rotate_left 1
      focus exact CutPost.panic fun _ _ _ h => h
      focus (intro w hSw; (try dsimp only at hSw); go_simp; try with_reducible rfl)
      (try simp only [Act.put, List.setIfInBounds_toArray, List.set_cons_zero, List.set_cons_succ])
      refine wpAnyH_ready (rs := [7]) (by kernel_rfl) (by simp) ?_
      refine AllReadyH.cons (o := ?_) (by simp only [List.getElem?_toArray, List.getElem?_cons_succ, List.getElem?_cons_zero]; rfl) (fun K hK => ?_) AllReadyH.nil
      go_simp
      refine hK.out _ _ (⟨cell_alloc (show V2.drew.cell? _ = _ from d1) _, cell_alloc (show V2.drew.cell? _ = _ from e0) _⟩) (fun hHeld => ?_)
      clear hK K
      (try simp only [Act.put, List.setIfInBounds_toArray, List.set_cons_zero, List.set_cons_succ])
      refine wpAnyH_ready (rs := [8]) (by kernel_rfl) (by simp) ?_
      refine AllReadyH.cons (o := ?_) (by simp only [List.getElem?_toArray, List.getElem?_cons_succ, List.getElem?_cons_zero]; rfl) (fun K hK => ?_) AllReadyH.nil
      (refine step_app _ (by rfl) _ _ _ (by rfl) lo 3 j0 _ 1 8 Try.underlying56 hi' hz0' hz1' hz2' rfl (by omega) (.slice iA' s.ids.length iC') s.ids.length (intCells s.ids) (by rfl) (oi.drew.alloc _) _ 1 1 [.int .i64 e.id] (by rfl) (by first | exact RS_new (by simp) | exact (RS_new (by simp)).drewN 1) (by simp [Value.oneCell']) (by unfold maxLen; omega) (by omega) (Nat.le_trans z2 (Below.size (Below.drew (below_box V2 _)))) ?_; intro A6 c6 w6 o6 g6 at6 b6; have BX : Hid (Below V2.heap.size V2 (V2.drew.alloc (Obj.cells #[.int .i64 e.id] 3))) := Lib.hid ((Below.refl _ _).drew.alloc (Nat.le_refl _) _); have G6 := Lib.hid (grown_pre BX.out g6); have K6 := Lib.hid (Keeps.grown (q := none) oi G6.out (by decide) (by decide)); have E6 := Lib.hid (K6.out _ _ _ (.inl rfl) E3.out); have Q6 := Lib.hid (K6.out _ _ _ (.inr ⟨rfl, by simp⟩) Q3.out); have e6 := (evCells E6.out).1; have CS6 := Lib.hid ((G6.out.block g hg2' (fun h => own_ne_type oi CS.out (by decide) h.symm)).trans CS.out); have d6 := (World.cell?_of_block (a := ⟨g, p * 3 + 1, none⟩) (G6.out.block g hg2' (fun h => own_ne_type oi CS.out (by decide) h.symm))).trans d1; have f6 := blk_free CS6.out)
      refine hK.out _ _ (⟨d6, e6⟩) (fun hHeld => ?_)
      clear hK K
      (try simp only [Act.put, List.setIfInBounds_toArray, List.set_cons_zero, List.set_cons_succ])
      refine wpAnyH_take (i := 9) (oi := ?_) (v := ?_) (by simp only [List.getElem?_toArray, List.getElem?_cons_succ, List.getElem?_cons_zero]; rfl) (by kernel_rfl) (by kernel_rfl) (by kernel_rfl) ?_ (Or.inl ⟨by rfl, ?_⟩) hHeld ?_
      rotate_left 1
      focus exact CutPost.panic fun _ _ _ h => h
      focus (intro w hSw; (try dsimp only at hSw); go_simp; try with_reducible rfl)
      (try simp only [Act.put, List.setIfInBounds_toArray, List.set_cons_zero, List.set_cons_succ])
      refine wpAnyH_take (i := 10) (oi := ?_) (v := ?_) (by simp only [List.getElem?_toArray, List.getElem?_cons_succ, List.getElem?_cons_zero]; rfl) (by kernel_rfl) (by kernel_rfl) (by kernel_rfl) ?_ (Or.inl ⟨by rfl, ?_⟩) hHeld ?_
      rotate_left 1
      focus exact CutPost.panic fun _ _ _ h => h
      focus (intro w hSw; (try dsimp only at hSw); go_simp; try with_reducible rfl)
      (try simp only [Act.put, List.setIfInBounds_toArray, List.set_cons_zero, List.set_cons_succ])
      refine wpAnyH_done (by kernel_rfl) ?_ _
      refine CutPost.step (o := ?_) (by simp only [List.getElem?_toArray, List.getElem?_cons_succ, List.getElem?_cons_zero]; rfl) (fun K hK => ?_)
      go_simp
      refine hK _ _ ?_
      clear hK K
      (try simp only [Act.put, List.setIfInBounds_toArray, List.set_cons_zero, List.set_cons_succ])
      have O6 : w6.ownsRow lo 3 1 (.slice A6 (s.ids.length + 1) c6) (s.ids.length + 1) (intCells (s.ids ++ [e.id])) := by simpa [intCells] using o6
      have SOF := Lib.hid (RI.out w6 A6 (s.ids.length + 1) c6 (s.ids ++ [e.id]) G6.out O6 (at6.imp id fun h x hx => by rw [h] at hx; injection hx with hx; rw [← hx]; exact BX.out.size)).top
      have K9 := Lib.hid (Keeps.set (q := none) (u := .slice A6 (s.ids.length + 1) c6) (p := ⟨g, p * 3 + 1, none⟩) CS6.out (by decide) (by decide))
      have QF := Lib.hid (K9.out _ _ _ (.inr ⟨rfl, by simp⟩) Q6.out)
      have bF := Lib.hid ((b3.out.trans ((BX.out.mono z2).trans b6)).setCell (p := ⟨g, p * 3 + 1, none⟩) hg1 (.slice A6 (s.ids.length + 1) c6))
      have kF := Lib.hid (k3.out.trans ((K6.out.one q).trans (K9.out.one q)))
      clear o6 g6 at6 b6 O6 d6 e6 f6 d1 e0 f3 oi G6 K6 K9
      go_wp2_with fail
      go_ret
      rw [R.out, RS'.out]
      refine ⟨rfl, fun _ => ⟨_, m, _, dA, dn, dc, QF.out, hlq, us, US.out, ?_⟩, bF.out, kF.out⟩
      have := SOF.out
      rw [List.set_set] at this
      exact this
end Go.Proofs.Ytlgodbjbllpipaa
