/- The walks of AddLate. -/
import Derived.Test.YtlgodbjbllpipaaLayD
import Derived.Test.YtlgodbjbllpipaaLayE
import Derived.Test.YtlgodbjbllpipaaLay3
namespace Go.Proofs.Ytlgodbjbllpipaa
open Go.ChangeShapes Go.WideShapes Go.ChangeAt Go.RowKit

theorem late_ways (l : List Lay) (k a : Int) : areLayers l = false ∨ (areLayers l = true ∧ inB k 0 ((l.length : Int) - 1) = false) ∨ (areLayers l = true ∧ inB k 0 ((l.length : Int) - 1) = true ∧ inB a (-1000000000) 1000000000 = false) ∨
    (areLayers l = true ∧ inB k 0 ((l.length : Int) - 1) = true ∧ inB a (-1000000000) 1000000000 = true) := by
  cases areLayers l <;> cases inB k 0 ((l.length : Int) - 1) <;> cases inB a (-1000000000) 1000000000 <;> simp

theorem own_lay_at {w : World} {base n c j : Nat} {e : TypeId} {A : Option Addr} {l : List Lay} {q v u : Int} (h : w.ownsRow base e 3 (.slice A n c) n (layCells l)) (hx : l[j]? = some ⟨q, v, u⟩) (hj : j < n) :
    ∃ g, A = some ⟨g, 0, none⟩ ∧ base ≤ g ∧ g < w.heap.size ∧ w.cell? ⟨g, j * 3, none⟩ = some (.int .i64 q) ∧ w.cell? ⟨g, j * 3 + 1, none⟩ = some (.int .i64 v) ∧ w.cell? ⟨g, j * 3 + 2, none⟩ = some (.int .i64 u) ∧ ∀ i, w.frozen? ⟨g, i, none⟩ = false := by
  obtain ⟨g, rfl, h1, h2, h3, h4⟩ := own_addr h (by omega)
  obtain ⟨a0, a1, a2⟩ := layCells_at l j _ hx
  exact ⟨g, rfl, h1, h2, (h3 _ (by omega)).trans a0, (h3 _ (by omega)).trans a1, (h3 _ (by omega)).trans a2, h4⟩

set_option maxHeartbeats 2000000 in
theorem implAddLate (A : Option Addr) (n c : Nat) (l : List Lay) (k a : Int) (w : World) (hr : RS w 3 A n (layCells l)) (hn : n ≤ 100000000) :
    Calls Try.prog 117 #[.slice A n c, .int .i64 k, .int .i64 a] w fun e w' => ∃ A' c', e = .returned (.tuple #[.slice A' (lateOut l k a).length c', .int .i64 (lateGone l k a), .bool (lateOk l k a)]) ∧
      w'.ownsRow w.heap.size 61 3 (.slice A' (lateOut l k a).length c') (lateOut l k a).length (layCells (lateOut l k a)) ∧ Below w.heap.size w w' := by
  have hl := Lib.hid hr.lay
  obtain ⟨i0, hi, hz0, hz1, hz2⟩ := info_parts layInfo
  rcases late_ways l k a with h | ⟨h, h2⟩ | ⟨h, h2, h3⟩ | ⟨h, h2, h3⟩
  case inr.inr.inr =>
    have hk := inB_true.1 h2; have hav := inB_true.1 h3
    have n24 : n ≤ 24 := by rw [← hl.out]; exact areLayers_len h
    rw [hl.out] at hk h2
    obtain ⟨j, rfl⟩ := Int.eq_ofNat_of_zero_le hk.1
    have e0 : lateOk l (j : Int) a = areLayers (lateL l j a) := by simp [lateOk, lateIn, h, h2, h3, hl.out]
    have e1 : lateOut l (j : Int) a = if areLayers (lateL l j a) then lateL l j a else [] := by rw [lateOut, e0, Int.toNat_natCast]
    have e2 : lateGone l (j : Int) a = if areLayers (lateL l j a) then lateDiff l j a else 0 := by rw [lateGone, e0, Int.toNat_natCast]
    rw [e0, e1, e2]; clear e0 e1 e2
    obtain ⟨x, hx⟩ : ∃ x, l[j]? = some x := ⟨_, List.getElem?_eq_getElem (by rw [hl.out]; omega)⟩
    obtain ⟨q, v, u⟩ := x
    have ha := areLayers_at h hx
    simp only at ha
    have HX := Lib.hid hx
    have HL : (lateL l j a).length = n := by rw [lateL_len, hl.out]
    have l1 := lcost_bd (x := ⟨q, v, u⟩) (n := u) (by simp; omega) (by simp; omega) (by omega) (by simp; omega)
    simp only at l1
    have i1 : (0 : Int) ≤ j := by omega
    have i2 : (j : Int) < n := by omega
    cases h4 : areLayers (lateL l j a)
    · rw [if_neg Bool.false_ne_true, if_neg Bool.false_ne_true]
      have H4 := Lib.hid h4
      clear h4 hx
      have HLL := Lib.hid HL; clear HL
      go_enter Try.func117, Try.ntmps117
      go_wp2_with fail
      refine (implAreLayers _ _ _ l _ hr (by omega)).mono ?_; rw [h]; rintro e w1 ⟨rfl, hb1⟩
      go_wp2_with fail
      refine (impl_in _ _ _ _).mono ?_; rw [h2]; rintro e w' ⟨rfl, rfl⟩
      go_wp2_with fail
      refine (impl_in _ _ _ _).mono ?_; rw [h3]; rintro e w' ⟨rfl, rfl⟩
      go_wp2_with fail
      refine (copyLayers_any _ _ _ l _ (hr.below hb1) (by omega)).mono ?_; rintro e w3 ⟨A3, c3, rfl, ho3, hb3⟩
      have b3 := below_then hb1 hb3
      have ho := own_base ho3 hb1.size
      clear ho3 hb1 hb3 h h2 h3
      obtain ⟨g, rfl, hgb, hgs, -, hf⟩ := own_addr ho (by omega)
      obtain ⟨g', off, hA, q', v', u', hx', hq, hv, hu⟩ := (RS.of_own ho).layAt (k := j) (by omega)
      obtain ⟨rfl, rfl⟩ : g = g' ∧ 0 = off := by simpa using hA
      obtain ⟨rfl, rfl, rfl⟩ : q = q' ∧ v = v' ∧ u = u' := by rw [HX.out] at hx'; simpa using hx'
      clear hx' hA
      simp only [Nat.zero_add] at hq hv hu
      have d0 := cell_wext hq; have d1 := cell_wext hv; have d2 := cell_wext hu
      have f3 := frozen_wext (w := w3) (p := ⟨g, j * 3 + 1, none⟩) hgs (hf _)
      clear hf
      go_wp2
      refine wp_region_ext (by kernel_rfl) (by kernel_rfl) ?_
      repeat (go_big_quiet_step ((go_at_call 77; exact ext_call (implCost _ _ _ _ _ (by omega) (by omega) (by omega)))))
      refine wpQuiet_nil ?_
      intro _ hw'; obtain ⟨nq, hw''⟩ := hw'; subst hw''
      have b4 := below_app b3 (below_wext w3 nq) b3.size
      have o4 := ((own_below ho (below_wext w3 nq)).stored (j * 3 + 1) (.int .i64 (v + a))).1
      rw [layCells_setV _ _ _ _ _ _ HX.out, show (⟨q, v + a, u⟩ : Lay) = bump ⟨q, v, u⟩ a from rfl, ← lateL_at HX.out] at o4
      have b5 := b4.setCell (p := ⟨g, j * 3 + 1, none⟩) hgb (.int .i64 (v + a))
      go_wp2_with fail
      refine (implAreLayers _ _ _ (lateL l j a) _ (RS.of_own o4) (by omega)).mono ?_; rw [H4.out]; rintro e w6 ⟨rfl, hb6⟩
      have b6 := below_app b5 hb6 b5.size
      have o6 := own_below o4 hb6
      clear o4 ho hb6
      go_wp2_with fail
      go_ret3
      exact ⟨_, _, rfl, World.ownsRow_nil _ _ _ _, b6⟩
    · have hxl : (lateL l j a)[j]? = some ⟨q, v + a, u⟩ := by rw [lateL_at hx, List.getElem?_set_self (by rw [hl.out]; omega)]; rfl
      have ha' := areLayers_at h4 hxl
      simp only at ha'
      have l2 := lcost_bd (x := ⟨q, v + a, u⟩) (n := u) (by simp; omega) (by simp; omega) (by omega) (by simp; omega)
      simp only at l2
      have s1 : IntKind.i64.wrap (lcost ⟨q, v + a, u⟩ u - lcost ⟨q, v, u⟩ u) = lcost ⟨q, v + a, u⟩ u - lcost ⟨q, v, u⟩ u := IntWalk.i64_in _ (by omega)
      have HXL := Lib.hid hxl; clear hxl
      rw [if_pos rfl, if_pos rfl, HL, lateDiff_at hx, show lcost (bump ⟨q, v, u⟩ a) u - lcost ⟨q, v, u⟩ u = lcost ⟨q, v + a, u⟩ u - lcost ⟨q, v, u⟩ u from rfl]
      have H4 := Lib.hid h4
      clear h4 hx
      have HLL := Lib.hid HL; clear HL
      go_enter Try.func117, Try.ntmps117
      go_wp2_with fail
      refine (implAreLayers _ _ _ l _ hr (by omega)).mono ?_; rw [h]; rintro e w1 ⟨rfl, hb1⟩
      go_wp2_with fail
      refine (impl_in _ _ _ _).mono ?_; rw [h2]; rintro e w' ⟨rfl, rfl⟩
      go_wp2_with fail
      refine (impl_in _ _ _ _).mono ?_; rw [h3]; rintro e w' ⟨rfl, rfl⟩
      go_wp2_with fail
      refine (copyLayers_any _ _ _ l _ (hr.below hb1) (by omega)).mono ?_; rintro e w3 ⟨A3, c3, rfl, ho3, hb3⟩
      have b3 := below_then hb1 hb3
      have ho := own_base ho3 hb1.size
      clear ho3 hb1 hb3 h h2 h3
      obtain ⟨g, rfl, hgb, hgs, -, hf⟩ := own_addr ho (by omega)
      obtain ⟨g', off, hA, q', v', u', hx', hq, hv, hu⟩ := (RS.of_own ho).layAt (k := j) (by omega)
      obtain ⟨rfl, rfl⟩ : g = g' ∧ 0 = off := by simpa using hA
      obtain ⟨rfl, rfl, rfl⟩ : q = q' ∧ v = v' ∧ u = u' := by rw [HX.out] at hx'; simpa using hx'
      clear hx' hA
      simp only [Nat.zero_add] at hq hv hu
      have d0 := cell_wext hq; have d1 := cell_wext hv; have d2 := cell_wext hu
      have f3 := frozen_wext (w := w3) (p := ⟨g, j * 3 + 1, none⟩) hgs (hf _)
      clear hf
      go_wp2
      refine wp_region_ext (by kernel_rfl) (by kernel_rfl) ?_
      repeat (go_big_quiet_step ((go_at_call 77; exact ext_call (implCost _ _ _ _ _ (by omega) (by omega) (by omega)))))
      refine wpQuiet_nil ?_
      intro _ hw'; obtain ⟨nq, hw''⟩ := hw'; subst hw''
      have b4 := below_app b3 (below_wext w3 nq) b3.size
      have o4 := ((own_below ho (below_wext w3 nq)).stored (j * 3 + 1) (.int .i64 (v + a))).1
      rw [layCells_setV _ _ _ _ _ _ HX.out, show (⟨q, v + a, u⟩ : Lay) = bump ⟨q, v, u⟩ a from rfl, ← lateL_at HX.out] at o4
      have b5 := b4.setCell (p := ⟨g, j * 3 + 1, none⟩) hgb (.int .i64 (v + a))
      go_wp2_with fail
      refine (implAreLayers _ _ _ (lateL l j a) _ (RS.of_own o4) (by omega)).mono ?_; rw [H4.out]; rintro e w6 ⟨rfl, hb6⟩
      have b6 := below_app b5 hb6 b5.size
      have o6 := own_below o4 hb6
      clear o4 ho hb6
      obtain ⟨g', off, hA, q', v', u', hx', kq, kv, ku⟩ := (RS.of_own o6).layAt (k := j) (by omega)
      obtain ⟨rfl, rfl⟩ : g = g' ∧ 0 = off := by simpa using hA
      obtain ⟨rfl, rfl, rfl⟩ : q = q' ∧ v + a = v' ∧ u = u' := by rw [HXL.out] at hx'; simpa using hx'
      clear hx' hA
      simp only [Nat.zero_add] at kq kv ku
      have e0 := cell_wext kq; have e1 := cell_wext kv; have e2 := cell_wext ku
      go_wp2
      refine wp_region_ext (by kernel_rfl) (by kernel_rfl) ?_
      repeat (go_big_quiet_step ((go_at_call 77; exact ext_call (implCost _ _ _ _ _ (by omega) (by omega) (by omega)))))
      refine wpQuiet_nil ?_
      intro _ hw'; obtain ⟨nr, hw''⟩ := hw'; subst hw''
      go_wp2
      go_ret3
      exact ⟨_, _, rfl, own_below o6 (below_wext w6 nr), below_app b6 (below_wext w6 nr) b6.size⟩
  all_goals
    have e3 : lateOk l k a = false := by simp [lateOk, lateIn, *]
    have e1 : lateOut l k a = [] := by rw [lateOut, e3]; rfl
    have e2 : lateGone l k a = 0 := by rw [lateGone, e3]; rfl
    rw [e1, e2, e3]; clear e1 e2 e3
    try rw [hl.out] at h2
    go_enter Try.func117, Try.ntmps117
    go_wp2_with fail
    refine (implAreLayers _ _ _ l _ hr (by omega)).mono ?_; rw [h]; rintro e w1 ⟨rfl, hb1⟩
    go_wp2_with (go_at_call 47; refine (impl_in _ _ _ _).mono ?_; rintro e w' ⟨rfl, rfl⟩)
    go_ret3
    exact ⟨_, _, rfl, World.ownsRow_nil _ _ _ _, hb1⟩

set_option maxHeartbeats 2000000 in
theorem specAddLate (A : Option Addr) (n c : Nat) (l : List Lay) (k a : Int) (w : World) (hr : RS w 3 A n (layCells l)) (hn : n ≤ 100000000) :
    Calls Try.prog 82 #[.slice A n c, .int .i64 k, .int .i64 a] w fun e w' => ∃ A' c', e = .returned (.tuple #[.slice A' (lateOut l k a).length c', .int .i64 (lateGone l k a), .bool (lateOk l k a)]) ∧
      w'.ownsRow w.heap.size 61 3 (.slice A' (lateOut l k a).length c') (lateOut l k a).length (layCells (lateOut l k a)) ∧ Below w.heap.size w w' := by
  have hl := Lib.hid hr.lay
  obtain ⟨i0, hi, hz0, hz1, hz2⟩ := info_parts layInfo
  rcases late_ways l k a with h | ⟨h, h2⟩ | ⟨h, h2, h3⟩ | ⟨h, h2, h3⟩
  case inr.inr.inr =>
    have hk := inB_true.1 h2; have hav := inB_true.1 h3
    have n24 : n ≤ 24 := by rw [← hl.out]; exact areLayers_len h
    rw [hl.out] at hk h2
    obtain ⟨j, rfl⟩ := Int.eq_ofNat_of_zero_le hk.1
    have e0 : lateOk l (j : Int) a = areLayers (lateL l j a) := by simp [lateOk, lateIn, h, h2, h3, hl.out]
    have e1 : lateOut l (j : Int) a = if areLayers (lateL l j a) then lateL l j a else [] := by rw [lateOut, e0, Int.toNat_natCast]
    have e2 : lateGone l (j : Int) a = if areLayers (lateL l j a) then lateDiff l j a else 0 := by rw [lateGone, e0, Int.toNat_natCast]
    rw [e0, e1, e2]; clear e0 e1 e2
    obtain ⟨x, hx⟩ : ∃ x, l[j]? = some x := ⟨_, List.getElem?_eq_getElem (by rw [hl.out]; omega)⟩
    obtain ⟨q, v, u⟩ := x
    have ha := areLayers_at h hx
    simp only at ha
    have HX := Lib.hid hx
    have HL : (lateL l j a).length = n := by rw [lateL_len, hl.out]
    have l1 := lcost_bd (x := ⟨q, v, u⟩) (n := u) (by simp; omega) (by simp; omega) (by omega) (by simp; omega)
    simp only at l1
    have i1 : (0 : Int) ≤ j := by omega
    have i2 : (j : Int) < n := by omega
    cases h4 : areLayers (lateL l j a)
    · rw [if_neg Bool.false_ne_true, if_neg Bool.false_ne_true]
      have H4 := Lib.hid h4
      clear h4 hx
      have HLL := Lib.hid HL; clear HL
      go_enter Try.func82, Try.ntmps82
      go_wp2_with fail
      refine (specAreLayers _ _ _ l _ hr (by omega)).mono ?_; rw [h]; rintro e w1 ⟨rfl, hb1⟩
      go_wp2_with fail
      refine (spec_in _ _ _ _).mono ?_; rw [h2]; rintro e w' ⟨rfl, rfl⟩
      go_wp2_with fail
      refine (spec_in _ _ _ _).mono ?_; rw [h3]; rintro e w' ⟨rfl, rfl⟩
      go_wp2_with (at_builtin; refine wpList_app _ rfl _ _ _ rfl w.heap.size 61 i0 _ 3 24 Try.underlying57 hi hz0 hz1 hz2 rfl (by omega) _ 0 [] rfl (own_empty _ w.heap.size 61 3 hb1.size) A n c (layCells l) rfl ((hr.below hb1).alloc _) (layCells_one l) (by unfold maxLen; omega) (by omega) (by have := hb1.size; simp; omega) ?_; intro A3 c3 w3 ho3 _ _ hb3; simp only [Nat.zero_add, List.nil_append] at ho3; obtain ⟨g, rfl, hgb, hgs, hq, hv, hu, hf⟩ := own_lay_at ho3 HX.out (by omega))
      have b3 : Below w.heap.size w w3 := (hb1.alloc hb1.size _).trans hb3
      have ho := ho3
      have o4 := (ho.stored (j * 3 + 1) (.int .i64 (v + a))).1
      rw [layCells_setV _ _ _ _ _ _ HX.out, show (⟨q, v + a, u⟩ : Lay) = bump ⟨q, v, u⟩ a from rfl, ← lateL_at HX.out] at o4
      have b5 := b3.setCell (p := ⟨g, j * 3 + 1, none⟩) hgb (.int .i64 (v + a))
      have hr5 := hr.below b5
      clear hb1 hb3 ho3 h h2 h3
      refine (specAreLayers _ _ _ (lateL l j a) _ (RS.of_own o4) (by omega)).mono ?_; rw [H4.out]; rintro e w6 ⟨rfl, hb6⟩
      have b6 := below_app b5 hb6 b5.size
      have o6 := own_below o4 hb6
      have hr6 := hr5.below hb6
      clear o4 ho hb6
      go_wp2_with fail
      go_ret3
      exact ⟨_, _, rfl, own_empty _ _ _ _ (b6).size, (b6).alloc (b6).size _⟩
    · have hxl : (lateL l j a)[j]? = some ⟨q, v + a, u⟩ := by rw [lateL_at hx, List.getElem?_set_self (by rw [hl.out]; omega)]; rfl
      have ha' := areLayers_at h4 hxl
      simp only at ha'
      have l2 := lcost_bd (x := ⟨q, v + a, u⟩) (n := u) (by simp; omega) (by simp; omega) (by omega) (by simp; omega)
      simp only at l2
      have s1 : IntKind.i64.wrap (lcost ⟨q, v + a, u⟩ u - lcost ⟨q, v, u⟩ u) = lcost ⟨q, v + a, u⟩ u - lcost ⟨q, v, u⟩ u := IntWalk.i64_in _ (by omega)
      have HXL := Lib.hid hxl; clear hxl
      rw [if_pos rfl, if_pos rfl, HL, lateDiff_at hx, show lcost (bump ⟨q, v, u⟩ a) u - lcost ⟨q, v, u⟩ u = lcost ⟨q, v + a, u⟩ u - lcost ⟨q, v, u⟩ u from rfl]
      have H4 := Lib.hid h4
      clear h4 hx
      have HLL := Lib.hid HL; clear HL
      go_enter Try.func82, Try.ntmps82
      go_wp2_with fail
      refine (specAreLayers _ _ _ l _ hr (by omega)).mono ?_; rw [h]; rintro e w1 ⟨rfl, hb1⟩
      go_wp2_with fail
      refine (spec_in _ _ _ _).mono ?_; rw [h2]; rintro e w' ⟨rfl, rfl⟩
      go_wp2_with fail
      refine (spec_in _ _ _ _).mono ?_; rw [h3]; rintro e w' ⟨rfl, rfl⟩
      go_wp2_with (at_builtin; refine wpList_app _ rfl _ _ _ rfl w.heap.size 61 i0 _ 3 24 Try.underlying57 hi hz0 hz1 hz2 rfl (by omega) _ 0 [] rfl (own_empty _ w.heap.size 61 3 hb1.size) A n c (layCells l) rfl ((hr.below hb1).alloc _) (layCells_one l) (by unfold maxLen; omega) (by omega) (by have := hb1.size; simp; omega) ?_; intro A3 c3 w3 ho3 _ _ hb3; simp only [Nat.zero_add, List.nil_append] at ho3; obtain ⟨g, rfl, hgb, hgs, hq, hv, hu, hf⟩ := own_lay_at ho3 HX.out (by omega))
      have b3 : Below w.heap.size w w3 := (hb1.alloc hb1.size _).trans hb3
      have ho := ho3
      have o4 := (ho.stored (j * 3 + 1) (.int .i64 (v + a))).1
      rw [layCells_setV _ _ _ _ _ _ HX.out, show (⟨q, v + a, u⟩ : Lay) = bump ⟨q, v, u⟩ a from rfl, ← lateL_at HX.out] at o4
      have b5 := b3.setCell (p := ⟨g, j * 3 + 1, none⟩) hgb (.int .i64 (v + a))
      have hr5 := hr.below b5
      clear hb1 hb3 ho3 h h2 h3
      refine (specAreLayers _ _ _ (lateL l j a) _ (RS.of_own o4) (by omega)).mono ?_; rw [H4.out]; rintro e w6 ⟨rfl, hb6⟩
      have b6 := below_app b5 hb6 b5.size
      have o6 := own_below o4 hb6
      have hr6 := hr5.below hb6
      clear o4 ho hb6
      obtain ⟨g', off, hA, q', v', u', hx', kq, kv, ku⟩ := (RS.of_own o6).layAt (k := j) (by omega)
      obtain ⟨rfl, rfl⟩ : g = g' ∧ 0 = off := by simpa using hA
      obtain ⟨rfl, rfl, rfl⟩ : q = q' ∧ v + a = v' ∧ u = u' := by rw [HXL.out] at hx'; simpa using hx'
      clear hx' hA
      simp only [Nat.zero_add] at kq kv ku
      have e0 := cell_wext kq; have e1 := cell_wext kv; have e2 := cell_wext ku
      obtain ⟨gl, offl, rfl, q'', v'', u'', hxx, lq, lv, lu⟩ := hr6.layAt (k := j) (by omega)
      obtain ⟨rfl, rfl, rfl⟩ : q = q'' ∧ v = v'' ∧ u = u'' := by rw [HX.out] at hxx; simpa using hxx
      clear hxx
      have y0 := cell_wext lq; have y1 := cell_wext lv; have y2 := cell_wext lu
      go_wp2
      refine wp_region_ext (by kernel_rfl) (by kernel_rfl) ?_
      repeat (go_big_quiet_step ((go_at_call 76; exact ext_call (specCost _ _ _ _ _ (by omega) (by omega) (by omega)))))
      refine wpQuiet_nil ?_
      intro _ hw'; obtain ⟨nr, hw''⟩ := hw'; subst hw''
      go_wp2
      go_ret3
      exact ⟨_, _, rfl, own_below o6 (below_wext w6 nr), below_app b6 (below_wext w6 nr) b6.size⟩
  all_goals
    have e3 : lateOk l k a = false := by simp [lateOk, lateIn, *]
    have e1 : lateOut l k a = [] := by rw [lateOut, e3]; rfl
    have e2 : lateGone l k a = 0 := by rw [lateGone, e3]; rfl
    rw [e1, e2, e3]; clear e1 e2 e3
    try rw [hl.out] at h2
    go_enter Try.func82, Try.ntmps82
    go_wp2_with fail
    refine (specAreLayers _ _ _ l _ hr (by omega)).mono ?_; rw [h]; rintro e w1 ⟨rfl, hb1⟩
    go_wp2_with (go_at_call 43; refine (spec_in _ _ _ _).mono ?_; rintro e w' ⟨rfl, rfl⟩)
    go_ret3
    exact ⟨_, _, rfl, own_empty _ _ _ _ (hb1).size, (hb1).alloc (hb1).size _⟩
end Go.Proofs.Ytlgodbjbllpipaa
