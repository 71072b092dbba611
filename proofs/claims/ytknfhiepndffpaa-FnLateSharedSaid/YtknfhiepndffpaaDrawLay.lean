/- The walks of the drawing of layers. -/
import Derived.Test.YtknfhiepndffpaaDraw2
import Derived.Test.YtknfhiepndffpaaLayOpen
import Derived.Test.YtknfhiepndffpaaLayF
import Derived.Test.YtknfhiepndffpaaLay4
import Derived.Test.YtknfhiepndffpaaLayH
import Derived.Deep.RegionWith
namespace Go.Proofs.Ytknfhiepndffpaa
open Go.ChangeShapes Go.WideShapes Go.ChangeAt Go.RowKit

theorem good_i64 {x : Lay} (h : layGood x) : layI64 x := by
  obtain ⟨h1, h2, h3, h4, h5, h6⟩ := h
  exact ⟨⟨by omega, by omega⟩, ⟨by omega, by omega⟩, ⟨by omega, by omega⟩⟩
theorem are_nil : areLayers [] = true := rfl

/-- Layers drawn by cursor g: some, and not many. -/
def DrawnLays (g : Nat) (w : World) (e : Ending) (w' : World) : Prop :=
  ∃ (A : Option Addr) (n c : Nat) (l : List Lay), e = .returned (.slice A n c) ∧ w'.ownsRow w.heap.size 46 3 (.slice A n c) n (layCells l) ∧ n ≤ 24 ∧ (∀ x ∈ l, layI64 x) ∧ w.grownBy w' (some g) ∧ Cur w' g
theorem set_i64 {l : List Lay} {j : Nat} {y : Lay} (h : ∀ x ∈ l, layGood x) (hy : layI64 y) : ∀ x ∈ l.set j y, layI64 x := by
  intro x hx
  rcases List.mem_or_eq_of_mem_set hx with h1 | h1
  · exact good_i64 (h x h1)
  · rw [h1]; exact hy
theorem layCells_setQ (l : List Lay) (k : Nat) (q v u q' : Int) (h : l[k]? = some ⟨q, v, u⟩) : (layCells l).set (k * 3) (.int .i64 q') = layCells (l.set k ⟨q', v, u⟩) := by
  induction l generalizing k with
  | nil => simp at h
  | cons y l ih =>
    cases k with
    | zero => simp at h; subst h; simp [layCells_cons]
    | succ k =>
      rw [layCells_cons, show (k + 1) * 3 = (k * 3) + 1 + 1 + 1 by omega]
      simp only [List.set_cons_succ]
      rw [ih k (by simpa using h), layCells_cons]

theorem grown_setNew {w w' : World} {row : Option Nat} (h : w.grownBy w' row) {p : Addr} (hp : w.heap.size ≤ p.block) (v : Value) : w.grownBy (w'.setCell p v) row :=
  ⟨h.os, h.tape, h.output, by simpa [World.setCell] using h.size, fun k hk hne => (Below.heap_setCell w' p v k (by omega)).trans (h.block k hk hne)⟩
theorem cur_setNew {w : World} {g : Nat} (h : Cur w g) {p : Addr} (hp : g < p.block) (v : Value) : Cur (w.setCell p v) g := by
  obtain ⟨A, n, c, i, x, bs, hh, hr, h1, h2, h3, h4⟩ := h
  refine ⟨A, n, c, i, x, bs, (Below.heap_setCell w p v g (by omega)).trans hh, hr.grown (grown_set w p v) (fun a e hn he => ?_), h1, h2, h3, h4⟩
  have := h4 a e hn
  injection he with he
  omega

set_option maxHeartbeats 4000000 in
theorem l31Layers_any (g : Nat) (w : World) (hc : Cur w g) :
    Calls Try.prog 49 #[.pointer (some ⟨g, 0, none⟩)] w (DrawnLays g w) := by
  have hlt := hc.lt
  go_enter Try.func49, Try.ntmps49
  go_wp2_with fail
  refine (l1Below_any g _ _ (hc.below (below_box _ _)) (by omega)).mono ?_; rintro e w1 ⟨m0, rfl, hm0, hm1, -, hg1, hc1⟩
  have ho1 := row_grown (own_empty w w.heap.size 46 3 (Nat.le_refl _)) hg1 (cur_apart (own_empty w w.heap.size 46 3 (Nat.le_refl _)) hlt)
  have G1 := (World.grownBy_alloc w _ (some g)).trans hg1
  clear hg1 hc
  go_wp2_with fail
  go_loopw [3, 4] (fun v i wr => ∃ (m : Int) (A : Option Addr) (n c : Nat) (l : List Lay), 0 ≤ m ∧ m ≤ 1000000000 ∧ i = .int .i64 m ∧ v = .slice A n c ∧ wr.ownsRow w.heap.size 46 3 (.slice A n c) n (layCells l) ∧ Hid (areLayers l = true) ∧ w.grownBy wr (some g) ∧ Cur wr g) (fun _ i _ => (intOf i).toNat)
  case atStart => exact ⟨m0, _, _, _, [], hm0, hm1, rfl, rfl, ho1, are_nil, G1, hc1⟩
  case round =>
    obtain ⟨m, A, n, c, l, hm, hmx, rfl, rfl, ho, hare, hg, hc⟩ := hrel
    clear ho1 G1 hc1
    have n24 : n ≤ 24 := by rw [← own_lay ho]; exact areLayers_len hare.out
    have hz := hg.size
    by_cases h0 : 0 < m
    · go_wp2_with fail
      refine (l1Below_any g _ _ hc (by omega)).mono ?_; rintro e w2 ⟨x, rfl, hx0, hx1, -, hg2, hc2⟩
      have ho2 := row_grown ho hg2 (cur_apart ho hlt)
      go_wp2_with fail
      refine (l1Below_any g _ _ hc2 (by omega)).mono ?_; rintro e w3 ⟨y, rfl, hy0, hy1, -, hg3, hc3⟩
      have ho3 := row_grown ho2 hg3 (cur_apart ho2 hlt)
      go_wp2_with fail
      refine (specReceive _ _ _ l _ _ _ (RS.of_own ho3) (by omega)).mono ?_; rintro e w4 ⟨A4, c4, rfl, ho4, hb4⟩
      have hc4 := hc3.below hb4
      have G4 := grown_below ((hg.trans hg2).trans hg3) hb4
      have ho5 := own_below ho3 hb4
      have z4 : w.heap.size ≤ w3.heap.size := ((hg.trans hg2).trans hg3).size
      have ho4' := own_base ho4 z4
      clear ho ho2 ho3 ho4 hg hg2 hg3 hb4 hc hc2 hc3
      cases hr : areLayers (recvL l (1 + x) y)
      · go_wp2_with fail
        go_roundw
        case rel => exact ⟨m - 1, A, n, c, l, by omega, by omega, by go_num, rfl, ho5, hare, G4, hc4⟩
        case measure => simp [intOf]; omega
      · have e : recvOut l (1 + x) y = recvL l (1 + x) y := by simp [recvOut, hr]
        rw [e] at ho4'
        go_wp2_with fail
        go_roundw
        case rel => exact ⟨m - 1, A4, _, c4, recvL l (1 + x) y, by omega, by omega, by go_num, rfl, ho4', hr, G4, hc4⟩
        case measure => simp [intOf]; omega
    · go_wp2_with fail
      refine (specLeftOf _ _ _ l _ (RS.of_own ho) (by omega)).mono ?_; rintro e w2 ⟨rfl, hb2⟩
      have ho2 := own_below ho hb2
      have hc2 := hc.below hb2
      have G2 := grown_below hg hb2
      clear ho hc hg hb2
      have lb : 0 ≤ leftOf l ∧ leftOf l ≤ 24 * 100000 := by rw [leftOf, if_pos hare.out, sumL]; exact sumTo_bd24 (left_bd hare.out) (by omega) (areLayers_len hare.out) _ (Nat.le_refl _)
      by_cases hleft : 0 < leftOf l
      · go_wp2_with fail
        refine (l1Once_any g _ _ hc2 (by omega)).mono ?_; rintro e w3 ⟨b3, rfl, hg3, hc3⟩
        have ho3 := row_grown ho2 hg3 (cur_apart ho2 hlt)
        have G3 := G2.trans hg3
        clear ho2 hc2 G2 hg3
        cases b3
        · go_wp2_with fail
          refine (l1Below_any g _ _ hc3 (by omega)).mono ?_; rintro e w4 ⟨x, rfl, hx0, hx1, -, hg4, hc4⟩
          have ho4 := row_grown ho3 hg4 (cur_apart ho3 hlt)
          have G4 := G3.trans hg4
          clear ho3 hc3 G3 hg4
          go_wp2_with fail
          refine (specIssue _ _ _ l _ _ (RS.of_own ho4) (by omega)).mono ?_; rintro e w5 ⟨A5, c5, rfl, ho5, hb5⟩
          have hs := own_base ho5 G4.size
          have hcz := hc4.below hb5
          have Gz := grown_below G4 hb5
          have hn24 := issueOut_len l (1 + x)
          have hgd0 : ∀ y ∈ issueOut l (1 + x), layGood y := by
            intro y hy
            unfold issueOut at hy
            split at hy
            · exact areLayers_good' (issue_are hare.out (by omega)) y hy
            · simp at hy
          have hgd := Lib.hid hgd0
          clear hgd0 ho4 hc4 G4 ho5 hb5
          generalize issueOut l (1 + x) = l5 at *
          obtain ⟨n5, hn5⟩ : ∃ n5, l5.length = n5 := ⟨_, rfl⟩
          rw [hn5] at hs hn24 ⊢
          have HN5 := Lib.hid hn5; clear hn5
          rcases Nat.eq_zero_or_pos n5 with hne | hne
          · have hl0 : l5 = [] := List.eq_nil_of_length_eq_zero (by rw [own_lay hs]; exact hne)
            have HL0 := Lib.hid hl0; clear hl0
            have hnd : decide ((0 : Int) < (n5 : Nat)) = false := by simp; omega
            have hnn : ¬ 0 < n5 := by omega
            clear hne
            go_wp2_with fail
            go_ret
            exact ⟨_, _, _, _, rfl, hs, hn24, fun x hx => good_i64 (hgd.out x hx), Gz, hcz⟩
          · go_wp2_with fail
            refine (l1Once_any g _ _ hcz (by omega)).mono ?_; rintro e wa ⟨bb, rfl, hga, hca⟩
            have hsa := row_grown hs hga (cur_apart hs hlt)
            have Ga := Gz.trans hga
            clear hs hcz Gz hga
            cases bb
            · go_wp2_with fail
              go_ret
              exact ⟨_, _, _, _, rfl, hsa, hn24, fun x hx => good_i64 (hgd.out x hx), Ga, hca⟩
            · go_wp2_with fail
              refine (l1Below_any g _ _ hca (by omega)).mono ?_; rintro e wb ⟨kk, rfl, hk0, -, hk1, hgb, hcb⟩
              have hk2 := hk1 (by omega)
              have hsb := row_grown hsa hgb (cur_apart hsa hlt)
              have Gb := Ga.trans hgb
              clear hsa hca Ga hgb hk1
              obtain ⟨j, rfl⟩ := Int.eq_ofNat_of_zero_le hk0
              have hj : j < n5 := by omega
              have i2 : (j : Int) < (n5 : Nat) := by omega
              obtain ⟨⟨q, v, u⟩, hx⟩ : ∃ x, l5[j]? = some x := ⟨_, List.getElem?_eq_getElem (by rw [own_lay hsb]; exact hj)⟩
              have hgx := hgd.out _ (List.mem_of_getElem? hx)
              have hq1 : 1 ≤ q := hgx.1
              have hq2 : q ≤ 100000 := hgx.2.1
              have HX := Lib.hid hx; clear hx hgx
              go_wp2_with fail
              refine (l1Below_any g _ _ hcb (by omega)).mono ?_; rintro e wc ⟨sw, rfl, hsw0, -, hsw1, hgc, hcc⟩
              have hsw2 := hsw1 (by omega)
              have hsc := row_grown hsb hgc (cur_apart hsb hlt)
              have Gc := Gb.trans hgc
              clear hsb hcb Gb hgc hsw1
              obtain ⟨ga, rfl, hgb, hgs, hcq, hcv, hcu, hfz⟩ := own_lay_at hsc HX.out hj
              have hne2 : ga ≠ g := by omega
              have hsw : sw = 0 ∨ sw = 1 ∨ sw = 2 := by omega
              rcases hsw with rfl | rfl | rfl
              · go_wp2_with fail
                go_region_with (go_at_call 50; refine (l1Below_any g _ _ (hcc.below (below_drewN (Below.refl _ _) 1)) (by omega)).mono ?_; rintro e wd ⟨y, rfl, hy0, hyM, hy1, hgd2, hcd⟩; have hy2 := hy1 (by omega); have hsd := row_grown hsc.drew hgd2 (cur_apart hsc hlt); have Gd := (grown_drewN Gc 1).trans hgd2; obtain ⟨ga', hga', -, -, dcq, dcv, dcu, dfz⟩ := own_lay_at hsd HX.out hj; obtain rfl : ga = ga' := by simpa using hga')
                all_goals
                  go_wp2
                  go_ret
                  have o := (hsd.stored (j * 3 + 2) (.int .i64 (q + y - 1))).1
                  rw [layCells_setU _ _ _ _ _ _ HX.out] at o
                  have gi := good_i64 (hgd.out _ (List.mem_of_getElem? HX.out))
                  have e8 : IntKind.i64.wrap (q + y) = q + y := IntWalk.i64_in _ (by omega)
                  have e9 : IntKind.i64.wrap (IntKind.i64.wrap (q + y) - 1) = q + y - 1 := by rw [e8]; exact IntWalk.i64_in _ (by omega)
                  rw [e9]
                  exact ⟨_, _, _, _, rfl, o, hn24, set_i64 hgd.out ⟨gi.1, gi.2.1, ⟨by simp only; omega, by simp only; omega⟩⟩, grown_setNew Gd hgb _, cur_setNew hcd (Nat.lt_of_lt_of_le hlt hgb) _⟩
              · go_wp2_with fail
                refine (l1Odd_any g _ hcc).mono ?_; rintro e wd ⟨y, rfl, hy, hgd2, hcd⟩
                have hsd := row_grown hsc hgd2 (cur_apart hsc hlt)
                have Gd := Gc.trans hgd2
                obtain ⟨ga', hga', -, -, dcq, dcv, dcu, dfz⟩ := own_lay_at hsd HX.out hj
                obtain rfl : ga = ga' := by simpa using hga'
                clear hga' hcq hcv hcu hfz hsc hcc Gc hgd2
                go_wp2_with fail
                go_ret
                have o := (hsd.stored (j * 3 + 1) (.int .i64 y)).1
                rw [layCells_setV _ _ _ _ _ _ HX.out] at o
                exact ⟨_, _, _, _, rfl, o, hn24, set_i64 hgd.out ⟨(good_i64 (hgd.out _ (List.mem_of_getElem? HX.out))).1, hy, (good_i64 (hgd.out _ (List.mem_of_getElem? HX.out))).2.2⟩, grown_setNew Gd hgb _, cur_setNew hcd (Nat.lt_of_lt_of_le hlt hgb) _⟩
              · go_wp2_with fail
                refine (l1Odd_any g _ hcc).mono ?_; rintro e wd ⟨y, rfl, hy, hgd2, hcd⟩
                have hsd := row_grown hsc hgd2 (cur_apart hsc hlt)
                have Gd := Gc.trans hgd2
                obtain ⟨ga', hga', -, -, dcq, dcv, dcu, dfz⟩ := own_lay_at hsd HX.out hj
                obtain rfl : ga = ga' := by simpa using hga'
                clear hga' hcq hcv hcu hfz hsc hcc Gc hgd2
                go_wp2_with fail
                go_ret
                have o := (hsd.stored (j * 3) (.int .i64 y)).1
                rw [layCells_setQ _ _ _ _ _ _ HX.out] at o
                exact ⟨_, _, _, _, rfl, o, hn24, set_i64 hgd.out ⟨hy, (good_i64 (hgd.out _ (List.mem_of_getElem? HX.out))).2⟩, grown_setNew Gd hgb _, cur_setNew hcd (Nat.lt_of_lt_of_le hlt hgb) _⟩
        · have hs := ho3; have hcz := hc3; have Gz := G3; have hn24 := n24
          have hgd := Lib.hid (areLayers_good' hare.out)
          clear ho3 hc3 G3
          rcases Nat.eq_zero_or_pos n with hne | hne
          · have hl0 : l = [] := List.eq_nil_of_length_eq_zero (by rw [own_lay hs]; exact hne)
            have HL0 := Lib.hid hl0; clear hl0
            have hnd : decide ((0 : Int) < (n : Nat)) = false := by simp; omega
            have hnn : ¬ 0 < n := by omega
            clear hne
            go_wp2_with fail
            go_ret
            exact ⟨_, _, _, _, rfl, hs, hn24, fun x hx => good_i64 (hgd.out x hx), Gz, hcz⟩
          · go_wp2_with fail
            refine (l1Once_any g _ _ hcz (by omega)).mono ?_; rintro e wa ⟨bb, rfl, hga, hca⟩
            have hsa := row_grown hs hga (cur_apart hs hlt)
            have Ga := Gz.trans hga
            clear hs hcz Gz hga
            cases bb
            · go_wp2_with fail
              go_ret
              exact ⟨_, _, _, _, rfl, hsa, hn24, fun x hx => good_i64 (hgd.out x hx), Ga, hca⟩
            · go_wp2_with fail
              refine (l1Below_any g _ _ hca (by omega)).mono ?_; rintro e wb ⟨kk, rfl, hk0, -, hk1, hgb, hcb⟩
              have hk2 := hk1 (by omega)
              have hsb := row_grown hsa hgb (cur_apart hsa hlt)
              have Gb := Ga.trans hgb
              clear hsa hca Ga hgb hk1
              obtain ⟨j, rfl⟩ := Int.eq_ofNat_of_zero_le hk0
              have hj : j < n := by omega
              have i2 : (j : Int) < (n : Nat) := by omega
              obtain ⟨⟨q, v, u⟩, hx⟩ : ∃ x, l[j]? = some x := ⟨_, List.getElem?_eq_getElem (by rw [own_lay hsb]; exact hj)⟩
              have hgx := hgd.out _ (List.mem_of_getElem? hx)
              have hq1 : 1 ≤ q := hgx.1
              have hq2 : q ≤ 100000 := hgx.2.1
              have HX := Lib.hid hx; clear hx hgx
              go_wp2_with fail
              refine (l1Below_any g _ _ hcb (by omega)).mono ?_; rintro e wc ⟨sw, rfl, hsw0, -, hsw1, hgc, hcc⟩
              have hsw2 := hsw1 (by omega)
              have hsc := row_grown hsb hgc (cur_apart hsb hlt)
              have Gc := Gb.trans hgc
              clear hsb hcb Gb hgc hsw1
              obtain ⟨ga, rfl, hgb, hgs, hcq, hcv, hcu, hfz⟩ := own_lay_at hsc HX.out hj
              have hne2 : ga ≠ g := by omega
              have hsw : sw = 0 ∨ sw = 1 ∨ sw = 2 := by omega
              rcases hsw with rfl | rfl | rfl
              · go_wp2_with fail
                go_region_with (go_at_call 50; refine (l1Below_any g _ _ (hcc.below (below_drewN (Below.refl _ _) 1)) (by omega)).mono ?_; rintro e wd ⟨y, rfl, hy0, hyM, hy1, hgd2, hcd⟩; have hy2 := hy1 (by omega); have hsd := row_grown hsc.drew hgd2 (cur_apart hsc hlt); have Gd := (grown_drewN Gc 1).trans hgd2; obtain ⟨ga', hga', -, -, dcq, dcv, dcu, dfz⟩ := own_lay_at hsd HX.out hj; obtain rfl : ga = ga' := by simpa using hga')
                all_goals
                  go_wp2
                  go_ret
                  have o := (hsd.stored (j * 3 + 2) (.int .i64 (q + y - 1))).1
                  rw [layCells_setU _ _ _ _ _ _ HX.out] at o
                  have gi := good_i64 (hgd.out _ (List.mem_of_getElem? HX.out))
                  have e8 : IntKind.i64.wrap (q + y) = q + y := IntWalk.i64_in _ (by omega)
                  have e9 : IntKind.i64.wrap (IntKind.i64.wrap (q + y) - 1) = q + y - 1 := by rw [e8]; exact IntWalk.i64_in _ (by omega)
                  rw [e9]
                  exact ⟨_, _, _, _, rfl, o, hn24, set_i64 hgd.out ⟨gi.1, gi.2.1, ⟨by simp only; omega, by simp only; omega⟩⟩, grown_setNew Gd hgb _, cur_setNew hcd (Nat.lt_of_lt_of_le hlt hgb) _⟩
              · go_wp2_with fail
                refine (l1Odd_any g _ hcc).mono ?_; rintro e wd ⟨y, rfl, hy, hgd2, hcd⟩
                have hsd := row_grown hsc hgd2 (cur_apart hsc hlt)
                have Gd := Gc.trans hgd2
                obtain ⟨ga', hga', -, -, dcq, dcv, dcu, dfz⟩ := own_lay_at hsd HX.out hj
                obtain rfl : ga = ga' := by simpa using hga'
                clear hga' hcq hcv hcu hfz hsc hcc Gc hgd2
                go_wp2_with fail
                go_ret
                have o := (hsd.stored (j * 3 + 1) (.int .i64 y)).1
                rw [layCells_setV _ _ _ _ _ _ HX.out] at o
                exact ⟨_, _, _, _, rfl, o, hn24, set_i64 hgd.out ⟨(good_i64 (hgd.out _ (List.mem_of_getElem? HX.out))).1, hy, (good_i64 (hgd.out _ (List.mem_of_getElem? HX.out))).2.2⟩, grown_setNew Gd hgb _, cur_setNew hcd (Nat.lt_of_lt_of_le hlt hgb) _⟩
              · go_wp2_with fail
                refine (l1Odd_any g _ hcc).mono ?_; rintro e wd ⟨y, rfl, hy, hgd2, hcd⟩
                have hsd := row_grown hsc hgd2 (cur_apart hsc hlt)
                have Gd := Gc.trans hgd2
                obtain ⟨ga', hga', -, -, dcq, dcv, dcu, dfz⟩ := own_lay_at hsd HX.out hj
                obtain rfl : ga = ga' := by simpa using hga'
                clear hga' hcq hcv hcu hfz hsc hcc Gc hgd2
                go_wp2_with fail
                go_ret
                have o := (hsd.stored (j * 3) (.int .i64 y)).1
                rw [layCells_setQ _ _ _ _ _ _ HX.out] at o
                exact ⟨_, _, _, _, rfl, o, hn24, set_i64 hgd.out ⟨hy, (good_i64 (hgd.out _ (List.mem_of_getElem? HX.out))).2⟩, grown_setNew Gd hgb _, cur_setNew hcd (Nat.lt_of_lt_of_le hlt hgb) _⟩
      · have hs := ho2; have hcz := hc2; have Gz := G2; have hn24 := n24
        have hgd := Lib.hid (areLayers_good' hare.out)
        clear ho2 hc2 G2
        rcases Nat.eq_zero_or_pos n with hne | hne
        · have hl0 : l = [] := List.eq_nil_of_length_eq_zero (by rw [own_lay hs]; exact hne)
          have HL0 := Lib.hid hl0; clear hl0
          have hnd : decide ((0 : Int) < (n : Nat)) = false := by simp; omega
          have hnn : ¬ 0 < n := by omega
          clear hne
          go_wp2_with fail
          go_ret
          exact ⟨_, _, _, _, rfl, hs, hn24, fun x hx => good_i64 (hgd.out x hx), Gz, hcz⟩
        · go_wp2_with fail
          refine (l1Once_any g _ _ hcz (by omega)).mono ?_; rintro e wa ⟨bb, rfl, hga, hca⟩
          have hsa := row_grown hs hga (cur_apart hs hlt)
          have Ga := Gz.trans hga
          clear hs hcz Gz hga
          cases bb
          · go_wp2_with fail
            go_ret
            exact ⟨_, _, _, _, rfl, hsa, hn24, fun x hx => good_i64 (hgd.out x hx), Ga, hca⟩
          · go_wp2_with fail
            refine (l1Below_any g _ _ hca (by omega)).mono ?_; rintro e wb ⟨kk, rfl, hk0, -, hk1, hgb, hcb⟩
            have hk2 := hk1 (by omega)
            have hsb := row_grown hsa hgb (cur_apart hsa hlt)
            have Gb := Ga.trans hgb
            clear hsa hca Ga hgb hk1
            obtain ⟨j, rfl⟩ := Int.eq_ofNat_of_zero_le hk0
            have hj : j < n := by omega
            have i2 : (j : Int) < (n : Nat) := by omega
            obtain ⟨⟨q, v, u⟩, hx⟩ : ∃ x, l[j]? = some x := ⟨_, List.getElem?_eq_getElem (by rw [own_lay hsb]; exact hj)⟩
            have hgx := hgd.out _ (List.mem_of_getElem? hx)
            have hq1 : 1 ≤ q := hgx.1
            have hq2 : q ≤ 100000 := hgx.2.1
            have HX := Lib.hid hx; clear hx hgx
            go_wp2_with fail
            refine (l1Below_any g _ _ hcb (by omega)).mono ?_; rintro e wc ⟨sw, rfl, hsw0, -, hsw1, hgc, hcc⟩
            have hsw2 := hsw1 (by omega)
            have hsc := row_grown hsb hgc (cur_apart hsb hlt)
            have Gc := Gb.trans hgc
            clear hsb hcb Gb hgc hsw1
            obtain ⟨ga, rfl, hgb, hgs, hcq, hcv, hcu, hfz⟩ := own_lay_at hsc HX.out hj
            have hne2 : ga ≠ g := by omega
            have hsw : sw = 0 ∨ sw = 1 ∨ sw = 2 := by omega
            rcases hsw with rfl | rfl | rfl
            · go_wp2_with fail
              go_region_with (go_at_call 50; refine (l1Below_any g _ _ (hcc.below (below_drewN (Below.refl _ _) 1)) (by omega)).mono ?_; rintro e wd ⟨y, rfl, hy0, hyM, hy1, hgd2, hcd⟩; have hy2 := hy1 (by omega); have hsd := row_grown hsc.drew hgd2 (cur_apart hsc hlt); have Gd := (grown_drewN Gc 1).trans hgd2; obtain ⟨ga', hga', -, -, dcq, dcv, dcu, dfz⟩ := own_lay_at hsd HX.out hj; obtain rfl : ga = ga' := by simpa using hga')
              all_goals
                go_wp2
                go_ret
                have o := (hsd.stored (j * 3 + 2) (.int .i64 (q + y - 1))).1
                rw [layCells_setU _ _ _ _ _ _ HX.out] at o
                have gi := good_i64 (hgd.out _ (List.mem_of_getElem? HX.out))
                have e8 : IntKind.i64.wrap (q + y) = q + y := IntWalk.i64_in _ (by omega)
                have e9 : IntKind.i64.wrap (IntKind.i64.wrap (q + y) - 1) = q + y - 1 := by rw [e8]; exact IntWalk.i64_in _ (by omega)
                rw [e9]
                exact ⟨_, _, _, _, rfl, o, hn24, set_i64 hgd.out ⟨gi.1, gi.2.1, ⟨by simp only; omega, by simp only; omega⟩⟩, grown_setNew Gd hgb _, cur_setNew hcd (Nat.lt_of_lt_of_le hlt hgb) _⟩
            · go_wp2_with fail
              refine (l1Odd_any g _ hcc).mono ?_; rintro e wd ⟨y, rfl, hy, hgd2, hcd⟩
              have hsd := row_grown hsc hgd2 (cur_apart hsc hlt)
              have Gd := Gc.trans hgd2
              obtain ⟨ga', hga', -, -, dcq, dcv, dcu, dfz⟩ := own_lay_at hsd HX.out hj
              obtain rfl : ga = ga' := by simpa using hga'
              clear hga' hcq hcv hcu hfz hsc hcc Gc hgd2
              go_wp2_with fail
              go_ret
              have o := (hsd.stored (j * 3 + 1) (.int .i64 y)).1
              rw [layCells_setV _ _ _ _ _ _ HX.out] at o
              exact ⟨_, _, _, _, rfl, o, hn24, set_i64 hgd.out ⟨(good_i64 (hgd.out _ (List.mem_of_getElem? HX.out))).1, hy, (good_i64 (hgd.out _ (List.mem_of_getElem? HX.out))).2.2⟩, grown_setNew Gd hgb _, cur_setNew hcd (Nat.lt_of_lt_of_le hlt hgb) _⟩
            · go_wp2_with fail
              refine (l1Odd_any g _ hcc).mono ?_; rintro e wd ⟨y, rfl, hy, hgd2, hcd⟩
              have hsd := row_grown hsc hgd2 (cur_apart hsc hlt)
              have Gd := Gc.trans hgd2
              obtain ⟨ga', hga', -, -, dcq, dcv, dcu, dfz⟩ := own_lay_at hsd HX.out hj
              obtain rfl : ga = ga' := by simpa using hga'
              clear hga' hcq hcv hcu hfz hsc hcc Gc hgd2
              go_wp2_with fail
              go_ret
              have o := (hsd.stored (j * 3) (.int .i64 y)).1
              rw [layCells_setQ _ _ _ _ _ _ HX.out] at o
              exact ⟨_, _, _, _, rfl, o, hn24, set_i64 hgd.out ⟨hy, (good_i64 (hgd.out _ (List.mem_of_getElem? HX.out))).2⟩, grown_setNew Gd hgb _, cur_setNew hcd (Nat.lt_of_lt_of_le hlt hgb) _⟩
end Go.Proofs.Ytknfhiepndffpaa
