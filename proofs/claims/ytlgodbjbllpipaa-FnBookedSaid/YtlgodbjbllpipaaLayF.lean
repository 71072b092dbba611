/- The walks of IssueLayers. -/
import Derived.Test.YtlgodbjbllpipaaLayD
import Derived.Test.YtlgodbjbllpipaaLayE
import Derived.Test.YtlgodbjbllpipaaLay3
namespace Go.Proofs.Ytlgodbjbllpipaa
open Go.ChangeShapes Go.WideShapes Go.ChangeAt Go.RowKit

set_option maxRecDepth 100000 in
set_option maxHeartbeats 2000000 in
theorem implIssue (A : Option Addr) (n c : Nat) (l : List Lay) (r : Int) (w : World) (hr : RS w 3 A n (layCells l)) (hn : n ≤ 100000000) :
    Calls Try.prog 116 #[.slice A n c, .int .i64 r] w fun e w' => ∃ A' c', e = .returned (.tuple #[.slice A' (issueOut l r).length c', .int .i64 (issueCost l r), .bool (issueOk l r)]) ∧
      w'.ownsRow w.heap.size 61 3 (.slice A' (issueOut l r).length c') (issueOut l r).length (layCells (issueOut l r)) ∧ Below w.heap.size w w' := by
  have hl := Lib.hid hr.lay
  cases h : areLayers l
  · have e1 : issueOut l r = [] := by simp [issueOut, issueOk, h]
    have e2 : issueCost l r = 0 := by simp [issueCost, issueOk, h]
    have e3 : issueOk l r = false := by simp [issueOk, h]
    rw [e1, e2, e3]; clear e1 e2 e3
    go_enter Try.func116, Try.ntmps116
    go_wp2_with (go_at_call 46; refine (implAreLayers _ _ _ l _ hr (by omega)).mono ?_; rw [h]; rintro e w1 ⟨rfl, hb1⟩)
    go_ret3
    exact ⟨_, _, rfl, World.ownsRow_nil _ _ _ _, hb1⟩
  · cases h2 : inB r 1 (leftOf l)
    · have e1 : issueOut l r = [] := by simp [issueOut, issueOk, h2]
      have e2 : issueCost l r = 0 := by simp [issueCost, issueOk, h2]
      have e3 : issueOk l r = false := by simp [issueOk, h2]
      rw [e1, e2, e3]; clear e1 e2 e3
      go_enter Try.func116, Try.ntmps116
      go_wp2_with (go_at_call 46; refine (implAreLayers _ _ _ l _ hr (by omega)).mono ?_; rw [h]; rintro e w1 ⟨rfl, hb1⟩)
      refine (implLeftOf _ _ _ l _ (hr.below hb1) (by omega)).mono ?_; rintro e w2 ⟨rfl, hb2⟩
      go_wp2_with fail
      refine (impl_in _ _ _ _).mono ?_; rw [h2]; rintro e w' ⟨rfl, rfl⟩
      go_wp2_with fail
      go_ret3
      exact ⟨_, _, rfl, World.ownsRow_nil _ _ _ _, below_then hb1 hb2⟩
    · have n24 : n ≤ 24 := by rw [← hl.out]; exact areLayers_len h
      have hr0 := inB_true.1 h2
      have lb : leftOf l ≤ 24 * 100000 := by rw [leftOf, if_pos h, sumL]; exact (sumTo_bd24 (left_bd h) (by omega) (areLayers_len h) _ (Nat.le_refl _)).2
      have lr : r ≤ 2400000 := by omega
      have e1 : issueOut l r = issueRow l r n := by rw [issueOut, if_pos (by simp [issueOk, h, h2]), ← issueRow_end, hl.out]
      have e2 : issueCost l r = (issueTo l r n).cost := by rw [issueCost, if_pos (by simp [issueOk, h, h2]), hl.out]
      have e3 : issueOk l r = true := by simp [issueOk, h, h2]
      have e4 : (issueRow l r n).length = n := by rw [issueRow_len _ _ _ (by rw [hl.out]; exact Nat.le_refl _), hl.out]
      rw [e1, e2, e3, e4]; clear e1 e2 e3 e4
      have BD := Lib.hid (fun k (hk : k ≤ l.length) => issueTo_bd h (q := r) (by omega) hk)
      have AT := Lib.hid (fun k x (hx : l[k]? = some x) => areLayers_at h hx)
      go_enter Try.func116, Try.ntmps116
      go_wp2_with (go_at_call 46; refine (implAreLayers _ _ _ l _ hr (by omega)).mono ?_; rw [h]; rintro e w1 ⟨rfl, hb1⟩)
      refine (implLeftOf _ _ _ l _ (hr.below hb1) (by omega)).mono ?_; rintro e w2 ⟨rfl, hb2⟩
      go_wp2_with fail
      refine (impl_in _ _ _ _).mono ?_; rw [h2]; rintro e w' ⟨rfl, rfl⟩
      go_wp2_with fail
      refine (copyLayers_any _ _ _ l _ (hr.below (below_then hb1 hb2)) (by omega)).mono ?_; rintro e w3 ⟨A3, c3, rfl, ho3, hb3⟩
      have b3 := below_then (below_then hb1 hb2) hb3
      have ho3' := own_base ho3 (below_then hb1 hb2).size
      clear h h2 ho3 hb1 hb2 hb3 lb
      go_wp2_with fail
      go_loopw [1, 8, 26] (fun rr cc i wr => ∃ k : Nat, k ≤ n ∧ i = .int .i64 k ∧ rr = .int .i64 (issueTo l r k).left ∧ cc = .int .i64 (issueTo l r k).cost ∧ Below w.heap.size w wr ∧ wr.ownsRow w.heap.size 61 3 (.slice A3 n c3) n (layCells (issueRow l r k))) (fun _ _ i _ => n - (intOf i).toNat)
      case atStart => exact ⟨0, Nat.zero_le _, rfl, by rw [issueTo_zero], by rw [issueTo_zero], b3, by rw [issueRow_zero]; exact ho3'⟩
      case round =>
        obtain ⟨k, hk, rfl, rfl, rfl, hb, ho⟩ := hrel
        clear b3 ho3'
        by_cases hlt : k < n
        · obtain ⟨g, rfl, hgb, hgs, -, hf⟩ := own_addr ho (by omega)
          obtain ⟨g', off, hA, q, v, u, hx, hq, hv, hu⟩ := (RS.of_own ho).layAt hlt
          obtain ⟨rfl, rfl⟩ : g = g' ∧ 0 = off := by simpa using hA
          have hxl : l[k]? = some ⟨q, v, u⟩ := by
            obtain ⟨y, hy⟩ : ∃ y, l[k]? = some y := ⟨_, List.getElem?_eq_getElem (by rw [hl.out]; exact hlt)⟩
            rw [issueRow_at hy] at hx; rw [hy, hx]
          have ha := AT.out k _ hxl
          have bd := BD.out k (by rw [hl.out]; omega)
          have HX := Lib.hid hxl
          clear hx hxl hA
          simp only [Nat.zero_add] at hq hv hu
          simp only at ha
          have i1 : (0 : Int) ≤ k := by omega
          have i2 : (k : Int) < n := by omega
          have s1 : IntKind.i64.wrap (q - u) = q - u := IntWalk.i64_in _ (by omega)
          have c0 := cell_wext hq; have c1 := cell_wext hv; have c2 := cell_wext hu
          have f2 := frozen_wext (p := ⟨g, k * 3 + 2, none⟩) hgs (hf _)
          obtain ⟨m, hm, hm1, hm2, hm3, hm4⟩ := min_is (issueTo l r k).left (q - u) (by omega) (by omega)
          have MM := Lib.hid hm4; clear hm4
          have l1 := lcost_bd (x := ⟨q, v, u⟩) (n := u) (by simp; omega) (by simp; omega) (by omega) (by simp; omega)
          have l2 := lcost_bd (x := ⟨q, v, u⟩) (n := u + m) (by simp; omega) (by simp; omega) (by omega) (by simp; omega)
          have l3 := lcost_mono (x := ⟨q, v, u⟩) (a := u) (b := u + m) (by simp; omega) (by simp; omega) (by omega)
          simp only at l1 l2
          have s2 : IntKind.i64.wrap (u + m) = u + m := IntWalk.i64_in _ (by omega)
          have s3 : IntKind.i64.wrap (lcost ⟨q, v, u⟩ (u + m) - lcost ⟨q, v, u⟩ u) = lcost ⟨q, v, u⟩ (u + m) - lcost ⟨q, v, u⟩ u := IntWalk.i64_in _ (by omega)
          have s4 : IntKind.i64.wrap ((issueTo l r k).cost + (lcost ⟨q, v, u⟩ (u + m) - lcost ⟨q, v, u⟩ u)) = (issueTo l r k).cost + (lcost ⟨q, v, u⟩ (u + m) - lcost ⟨q, v, u⟩ u) := IntWalk.i64_in _ (by omega)
          clear hf
          go_wp2
          go_quiet (fail)
          have b2 := below_drewN hb nq
          have ho2 := own_below ho (below_drewN (Below.refl _ _) nq)
          have d0 := cell_wext (cell_keep (below_drewN (Below.refl wr.heap.size wr) nq) hq); have d1 := cell_wext (cell_keep (below_drewN (Below.refl wr.heap.size wr) nq) hv); have d2 := cell_wext (cell_keep (below_drewN (Below.refl wr.heap.size wr) nq) hu)
          have f3 := frozen_wext (w := wr.drewN nq) (p := ⟨g, k * 3 + 2, none⟩) hgs (f2 ⟨0, #[]⟩)
          clear c0 c1 c2 f2 hb ho
          generalize wr.drewN nq = w4 at *
          go_wp2
          refine wp_region_ext (by kernel_rfl) (by kernel_rfl) ?_
          repeat (go_big_quiet_step ((go_at_call 77; exact ext_call (implCost _ _ _ _ _ (by omega) (by omega) (by omega)))))
          refine wpQuiet_nil ?_
          intro _ hw'; obtain ⟨nq, hw''⟩ := hw'; subst hw''
          go_wp2
          go_roundw
          case rel =>
            refine ⟨k + 1, by omega, by go_num, ?_, ?_, (below_app b2 (below_wext w4 nq) b2.size).setCell hgb _, ?_⟩
            · rw [issueTo_succ HX.out]
              show _ = Value.int .i64 ((issueTo l r k).left - min (issueTo l r k).left (q - u))
              rw [← MM.out]
            · rw [issueTo_succ HX.out]
              show _ = Value.int .i64 ((issueTo l r k).cost + (lcost ⟨q, v, u⟩ (u + min (issueTo l r k).left (q - u)) - lcost ⟨q, v, u⟩ u))
              rw [← MM.out]
            · have o := ((own_below ho2 (below_wext w4 nq)).stored (k * 3 + 2) (.int .i64 (u + m))).1
              rw [layCells_setU _ _ _ _ _ _ (issueRow_at HX.out), MM.out, issueRow_succ HX.out] at o
              rw [MM.out]
              exact o
          case measure => simp [intOf]; omega
        · go_wp2
          have : k = n := by omega
          subst this
          go_ret3
          exact ⟨_, _, rfl, ho, hb⟩
set_option maxRecDepth 100000 in
set_option maxHeartbeats 2000000 in
theorem specIssue (A : Option Addr) (n c : Nat) (l : List Lay) (r : Int) (w : World) (hr : RS w 3 A n (layCells l)) (hn : n ≤ 100000000) :
    Calls Try.prog 113 #[.slice A n c, .int .i64 r] w fun e w' => ∃ A' c', e = .returned (.tuple #[.slice A' (issueOut l r).length c', .int .i64 (issueCost l r), .bool (issueOk l r)]) ∧
      w'.ownsRow w.heap.size 61 3 (.slice A' (issueOut l r).length c') (issueOut l r).length (layCells (issueOut l r)) ∧ Below w.heap.size w w' := by
  have hl := Lib.hid hr.lay
  obtain ⟨i0, hi, hz0, hz1, hz2⟩ := info_parts layInfo
  cases h : areLayers l
  · have e1 : issueOut l r = [] := by simp [issueOut, issueOk, h]
    have e2 : issueCost l r = 0 := by simp [issueCost, issueOk, h]
    have e3 : issueOk l r = false := by simp [issueOk, h]
    rw [e1, e2, e3]; clear e1 e2 e3
    go_enter Try.func113, Try.ntmps113
    go_wp2_with (go_at_call 42; refine (specAreLayers _ _ _ l _ hr (by omega)).mono ?_; rw [h]; rintro e w1 ⟨rfl, hb1⟩)
    go_ret3
    exact ⟨_, _, rfl, own_empty _ _ _ _ hb1.size, hb1.alloc hb1.size _⟩
  · cases h2 : inB r 1 (leftOf l)
    · have e1 : issueOut l r = [] := by simp [issueOut, issueOk, h2]
      have e2 : issueCost l r = 0 := by simp [issueCost, issueOk, h2]
      have e3 : issueOk l r = false := by simp [issueOk, h2]
      rw [e1, e2, e3]; clear e1 e2 e3
      go_enter Try.func113, Try.ntmps113
      go_wp2_with (go_at_call 42; refine (specAreLayers _ _ _ l _ hr (by omega)).mono ?_; rw [h]; rintro e w1 ⟨rfl, hb1⟩)
      refine (specLeftOf _ _ _ l _ (hr.below hb1) (by omega)).mono ?_; rintro e w2 ⟨rfl, hb2⟩
      go_wp2_with fail
      refine (spec_in _ _ _ _).mono ?_; rw [h2]; rintro e w' ⟨rfl, rfl⟩
      go_wp2_with fail
      go_ret3
      have b2 := below_then hb1 hb2
      exact ⟨_, _, rfl, own_empty _ _ _ _ b2.size, b2.alloc b2.size _⟩
    · have n24 : n ≤ 24 := by rw [← hl.out]; exact areLayers_len h
      have hr0 := inB_true.1 h2
      have lb : leftOf l ≤ 24 * 100000 := by rw [leftOf, if_pos h, sumL]; exact (sumTo_bd24 (left_bd h) (by omega) (areLayers_len h) _ (Nat.le_refl _)).2
      have lr : r ≤ 2400000 := by omega
      have e1 : issueOut l r = issueRow l r n := by rw [issueOut, if_pos (by simp [issueOk, h, h2]), ← issueRow_end, hl.out]
      have e2 : issueCost l r = (issueTo l r n).cost := by rw [issueCost, if_pos (by simp [issueOk, h, h2]), hl.out]
      have e3 : issueOk l r = true := by simp [issueOk, h, h2]
      have e4 : (issueRow l r n).length = n := by rw [issueRow_len _ _ _ (by rw [hl.out]; exact Nat.le_refl _), hl.out]
      rw [e1, e2, e3, e4]; clear e1 e2 e3 e4
      have HA := Lib.hid h
      have BD := Lib.hid (fun k (hk : k ≤ l.length) => issueTo_bd h (q := r) (by omega) hk)
      have AT := Lib.hid (fun k x (hx : l[k]? = some x) => areLayers_at h hx)
      go_enter Try.func113, Try.ntmps113
      go_wp2_with (go_at_call 42; refine (specAreLayers _ _ _ l _ hr (by omega)).mono ?_; rw [h]; rintro e w1 ⟨rfl, hb1⟩)
      refine (specLeftOf _ _ _ l _ (hr.below hb1) (by omega)).mono ?_; rintro e w2 ⟨rfl, hb2⟩
      go_wp2_with fail
      refine (spec_in _ _ _ _).mono ?_; rw [h2]; rintro e w' ⟨rfl, rfl⟩
      go_wp2_with (at_builtin; refine wpList_app _ rfl _ _ _ rfl w.heap.size 61 i0 _ 3 24 Try.underlying57 hi hz0 hz1 hz2 rfl (by omega) _ 0 [] rfl (own_empty _ w.heap.size 61 3 (below_then hb1 hb2).size) A n c (layCells l) rfl ((hr.below (below_then hb1 hb2)).alloc _) (layCells_one l) (by unfold maxLen; omega) (by omega) (by have := (below_then hb1 hb2).size; simp; omega) ?_; intro A3 c3 w3 ho3 _ _ hb3; simp only [Nat.zero_add, List.nil_append] at ho3)
      have b3 : Below w.heap.size w w3 := ((below_then hb1 hb2).alloc (below_then hb1 hb2).size _).trans hb3
      have ho3' := ho3
      clear h h2 ho3 hb1 hb2 hb3 lb
      go_loopw [8, 9, 10] (fun rr cc i wr => ∃ k : Nat, k ≤ n ∧ i = .int .i64 k ∧ rr = .int .i64 (issueTo l r k).left ∧ cc = .int .i64 (issueTo l r k).cost ∧ Below w.heap.size w wr ∧ wr.ownsRow w.heap.size 61 3 (.slice A3 n c3) n (layCells (issueRow l r k))) (fun _ _ i _ => n - (intOf i).toNat)
      case atStart => exact ⟨0, Nat.zero_le _, rfl, by rw [issueTo_zero], by rw [issueTo_zero], b3, by rw [issueRow_zero]; exact ho3'⟩
      case round =>
        obtain ⟨k, hk, rfl, rfl, rfl, hb, ho⟩ := hrel
        clear b3 ho3'
        by_cases hlt : k < n
        · obtain ⟨g, rfl, hgb, hgs, -, hf⟩ := own_addr ho (by omega)
          obtain ⟨g', off, hA, q, v, u, hx, hq, hv, hu⟩ := (RS.of_own ho).layAt hlt
          obtain ⟨rfl, rfl⟩ : g = g' ∧ 0 = off := by simpa using hA
          have hxl : l[k]? = some ⟨q, v, u⟩ := by
            obtain ⟨y, hy⟩ : ∃ y, l[k]? = some y := ⟨_, List.getElem?_eq_getElem (by rw [hl.out]; exact hlt)⟩
            rw [issueRow_at hy] at hx; rw [hy, hx]
          have ha := AT.out k _ hxl
          have bd := BD.out k (by rw [hl.out]; omega)
          have HX := Lib.hid hxl
          clear hx hxl hA
          simp only [Nat.zero_add] at hq hv hu
          simp only at ha
          have i1 : (0 : Int) ≤ k := by omega
          have i2 : (k : Int) < n := by omega
          have s1 : IntKind.i64.wrap (q - u) = q - u := IntWalk.i64_in _ (by omega)
          have c0 := cell_wext hq; have c1 := cell_wext hv; have c2 := cell_wext hu
          have f2 := frozen_wext (p := ⟨g, k * 3 + 2, none⟩) hgs (hf _)
          by_cases hz : (issueTo l r k).left ≤ 0
          · have hz0 : (issueTo l r k).left = 0 := by omega
            obtain ⟨d1, d2⟩ := issueTo_done HA.out hz0
            rw [hl.out] at d1 d2
            have E1 : issueRow l r n = issueRow l r k := by
              rw [show issueRow l r n = (issueTo l r n).out from by rw [← hl.out, issueRow_end], d1]; rfl
            have E := Lib.hid (And.intro E1 d2)
            clear E1 d1 d2 hz0 s1 c0 c1 c2 f2 hf
            have hzd : decide (0 < (issueTo l r k).left) = false := by simp; omega
            go_wp2
            go_ret3
            exact ⟨_, _, by rw [E.out.2]; rfl, by rw [E.out.1]; exact ho, hb⟩
          obtain ⟨m, hm, hm1, hm2, hm3, hm4⟩ := min_is (issueTo l r k).left (q - u) (by omega) (by omega)
          have MM := Lib.hid hm4; clear hm4
          have l1 := lcost_bd (x := ⟨q, v, u⟩) (n := u) (by simp; omega) (by simp; omega) (by omega) (by simp; omega)
          have l2 := lcost_bd (x := ⟨q, v, u⟩) (n := u + m) (by simp; omega) (by simp; omega) (by omega) (by simp; omega)
          have l3 := lcost_mono (x := ⟨q, v, u⟩) (a := u) (b := u + m) (by simp; omega) (by simp; omega) (by omega)
          simp only at l1 l2
          have s2 : IntKind.i64.wrap (u + m) = u + m := IntWalk.i64_in _ (by omega)
          have s3 : IntKind.i64.wrap (lcost ⟨q, v, u⟩ (u + m) - lcost ⟨q, v, u⟩ u) = lcost ⟨q, v, u⟩ (u + m) - lcost ⟨q, v, u⟩ u := IntWalk.i64_in _ (by omega)
          have s4 : IntKind.i64.wrap ((issueTo l r k).cost + (lcost ⟨q, v, u⟩ (u + m) - lcost ⟨q, v, u⟩ u)) = (issueTo l r k).cost + (lcost ⟨q, v, u⟩ (u + m) - lcost ⟨q, v, u⟩ u) := IntWalk.i64_in _ (by omega)
          clear hf
          go_wp2
          go_quiet (fail)
          have b2 := below_drewN hb nq
          have ho2 := own_below ho (below_drewN (Below.refl _ _) nq)
          have d0 := cell_wext (cell_keep (below_drewN (Below.refl wr.heap.size wr) nq) hq); have d1 := cell_wext (cell_keep (below_drewN (Below.refl wr.heap.size wr) nq) hv); have d2 := cell_wext (cell_keep (below_drewN (Below.refl wr.heap.size wr) nq) hu)
          have f3 := frozen_wext (w := wr.drewN nq) (p := ⟨g, k * 3 + 2, none⟩) hgs (f2 ⟨0, #[]⟩)
          clear c0 c1 c2 f2 hb ho
          generalize wr.drewN nq = w4 at *
          go_wp2
          refine wp_region_ext (by kernel_rfl) (by kernel_rfl) ?_
          repeat (go_big_quiet_step ((go_at_call 76; exact ext_call (specCost _ _ _ _ _ (by omega) (by omega) (by omega)))))
          refine wpQuiet_nil ?_
          intro _ hw'; obtain ⟨nq, hw''⟩ := hw'; subst hw''
          go_wp2
          go_roundw
          case rel =>
            refine ⟨k + 1, by omega, by go_num, ?_, ?_, (below_app b2 (below_wext w4 nq) b2.size).setCell hgb _, ?_⟩
            · rw [issueTo_succ HX.out]
              show _ = Value.int .i64 ((issueTo l r k).left - min (issueTo l r k).left (q - u))
              rw [← MM.out]
            · rw [issueTo_succ HX.out]
              show _ = Value.int .i64 ((issueTo l r k).cost + (lcost ⟨q, v, u⟩ (u + min (issueTo l r k).left (q - u)) - lcost ⟨q, v, u⟩ u))
              rw [← MM.out, Int.add_sub_assoc]
            · have o := ((own_below ho2 (below_wext w4 nq)).stored (k * 3 + 2) (.int .i64 (u + m))).1
              rw [layCells_setU _ _ _ _ _ _ (issueRow_at HX.out), MM.out, issueRow_succ HX.out] at o
              rw [MM.out]
              exact o
          case measure => simp [intOf]; omega
        · go_wp2
          have : k = n := by omega
          subst this
          go_ret3
          exact ⟨_, _, rfl, ho, hb⟩
end Go.Proofs.Ytlgodbjbllpipaa
