/- The walks of WentInto and MadeFrom. No condition. -/
import Derived.Test.YtaldlinekipblaaAreUses
import Derived.Test.YtaldlinekipblaaSort2
import Derived.Test.YtaldlinekipblaaSortS
namespace Go.Proofs.Ytaldlinekipblaa
open Go.ChangeShapes Go.WideShapes Go.ChangeAt Go.RowKit

theorem own_none (w : World) (base : Nat) (e : TypeId) (size : Nat) : w.ownsRow base e size (.slice none 0 0) 0 [] := ⟨by simp, .inl ⟨rfl, rfl⟩⟩
theorem trace_no {us : List Us} (h : areUses us = false) (up : Bool) (b : ByteArray) : traceL up us b = [] := by simp [traceL, h]
theorem trace_yes {us : List Us} (h : areUses us = true) (up : Bool) (b : ByteArray) : traceL up us b = sortT (restL up us b) := by
  rw [traceL, if_pos h, sortT_once (rest_nodup _ _ _)]
theorem rest_one {up : Bool} {us : List Us} {b : ByteArray} (h : (reachL up us b).length = 1) : restL up us b = [] := by
  have := rest_len up us b
  exact List.eq_nil_of_length_eq_zero (by omega)
theorem RS_rest {w : World} {g m : Nat} {up : Bool} {us : List Us} {b : ByteArray} (h : RS w 1 (some ⟨g, 0, none⟩) m ((reachL up us b).flatMap stCell)) (hm : 1 ≤ m) : RS w 1 (some ⟨g, 1, none⟩) (m - 1) ((restL up us b).flatMap stCell) := RS_drop1 h hm
set_option maxRecDepth 100000 in
set_option maxHeartbeats 4000000 in
theorem implWentInto (A : Option Addr) (n c : Nat) (us : List Us) (b : ByteArray) (w : World) (hr : RS w 3 A n (us.flatMap usCell)) (hn : n ≤ 1048600) (hs : usSmall us) :
    Calls Try.prog 18 #[.slice A n c, .string b] w fun e w' => ∃ A' c', e = .returned (.slice A' (traceL false us b).length c') ∧ w'.ownsRow w.heap.size 9 1 (.slice A' (traceL false us b).length c') (traceL false us b).length ((traceL false us b).flatMap stCell) ∧ Below w.heap.size w w' := by
  have hl := Lib.hid (hr.flatLen usCell_len (by omega))
  obtain ⟨i0, hi, hz0, hz1, hz2⟩ := info_parts stInfo
  cases h : areUses us
  · have E := Lib.hid (trace_no h false b)
    have H := Lib.hid h; clear h
    go_enter Try.func18, Try.ntmps18
    go_wp2_with fail
    refine (implAreUses _ _ _ us _ hr hn hs).mono ?_; rw [H.out]; rintro e w1 ⟨rfl, hb1⟩
    go_wp2_with fail
    rw [E.out]
    go_ret
    exact ⟨none, 0, rfl, own_none _ _ _ _, hb1⟩
  · have E := Lib.hid (trace_yes h false b)
    have H := Lib.hid h; clear h
    have RL := rest_len false us b
    have RB := (reach_len false us b)
    rw [hl.out] at RB
    obtain ⟨m, hm⟩ : ∃ m, (reachL false us b).length = m := ⟨_, rfl⟩
    go_enter Try.func18, Try.ntmps18
    go_wp2_with fail
    refine (implAreUses _ _ _ us _ hr hn hs).mono ?_; rw [H.out]; rintro e w1 ⟨rfl, hb1⟩
    go_wp2_with fail
    refine (implReachDown _ _ _ us b _ (hr.below hb1) hn).mono ?_; rintro e w2 ⟨A2, c2, v2, rfl, o2, hb2⟩
    have B2 := Lib.hid (below_then hb1 hb2)
    rw [hm] at o2 RL RB
    rw [hm]
    have ho := o2
    obtain ⟨g, rfl, hgb, hgs, _, hf⟩ := own_addr o2 (by omega)
    obtain ⟨A9, c9, ec, hcm, _⟩ := own_slice o2
    obtain rfl : c2 = c9 := by injection ec
    clear ec
    have rr := RS.of_own ho
    have z1 := hb1.size
    have i1 : (1 : Int) ≤ m := by omega
    have i3 : (m : Int) ≤ c2 := by omega
    have GL : w.heap.size ≤ g := by omega
    have TL := Lib.hid (show (sortT (restL false us b)).length = m - 1 by rw [sortT_len]; omega)
    obtain ⟨out, hout⟩ : ∃ o, sortT (restL false us b) = o := ⟨_, rfl⟩
    rw [hout] at E TL
    have RS0 : m = 1 → RS w2 1 (some ⟨g, 0, none⟩) 0 ((restL false us b).flatMap stCell) := fun h1 => by rw [rest_one (hm.trans h1)]; exact RS.nil _ _ _
    have RS1 := RS_rest rr (by omega)
    have B0 := B2.out.size
    by_cases hc1 : c2 = 1
    all_goals
      skip
    · obtain rfl : m = 1 := by omega
      subst hc1
      have SP := sort_part (c := 0) (RS0 rfl) hf hgs (by omega) (Nat.le_refl _)
      rw [hout] at SP
      clear RS0 RS1 rr ho hm
      go_wp2_with fail
      refine SP.mono ?_; rintro e w3 ⟨rfl, r3, g3⟩
      have B3 := B2.out.grown g3 B0 (fun j hj => by injection hj with hj; omega)
      have E0 := own_empty w3 w.heap.size 9 1 B3.size
      have z3 := B3.size
      clear g3 o2 SP
      go_wp2_with (at_builtin; refine wpList_app _ rfl _ _ _ rfl w.heap.size 9 i0 _ 1 16 Try.underlying24 hi hz0 hz1 hz2 rfl (by omega) _ 0 _ rfl E0 _ 0 _ _ rfl (r3.alloc _) (flat_one_cell stCell_one _) (by unfold maxLen; omega) (by omega) (by simp; omega) ?_; intro A5 c5 w5 o5 g5 at5 b5; rw [List.nil_append] at o5; have B5 := (B3.alloc z3 (Obj.cells #[] 9)).trans b5; clear g5 at5 b5)
      rw [E.out, TL.out]
      go_ret
      exact ⟨A5, c5, rfl, o5, B5⟩
    · obtain ⟨q, rfl⟩ : ∃ q, m = q + 1 := ⟨m - 1, by omega⟩
      have SP := sort_part (c := c2 - 1) RS1 hf hgs (by omega) (by omega)
      rw [hout] at SP
      have TL' := Lib.hid (show out.length = q from TL.out)
      have e1 : q + 1 - 1 = q := by omega
      rw [e1] at SP
      clear RS0 RS1 rr ho hm TL
      go_wp2_with fail
      refine SP.mono ?_; rintro e w3 ⟨rfl, r3, g3⟩
      have B3 := B2.out.grown g3 B0 (fun j hj => by injection hj with hj; omega)
      have E0 := own_empty w3 w.heap.size 9 1 B3.size
      have z3 := B3.size
      clear g3 o2 SP
      go_wp2_with (at_builtin; refine wpList_app _ rfl _ _ _ rfl w.heap.size 9 i0 _ 1 16 Try.underlying24 hi hz0 hz1 hz2 rfl (by omega) _ 0 _ rfl E0 _ q _ _ rfl (r3.alloc _) (flat_one_cell stCell_one _) (by unfold maxLen; omega) (by omega) (by simp; omega) ?_; intro A5 c5 w5 o5 g5 at5 b5; rw [Nat.zero_add, List.nil_append] at o5; have B5 := (B3.alloc z3 (Obj.cells #[] 9)).trans b5; clear g5 at5 b5)
      rw [E.out, TL'.out]
      go_ret
      exact ⟨A5, c5, by simp, o5, B5⟩
set_option maxRecDepth 100000 in
set_option maxHeartbeats 4000000 in
theorem specWentInto (A : Option Addr) (n c : Nat) (us : List Us) (b : ByteArray) (w : World) (hr : RS w 3 A n (us.flatMap usCell)) (hn : n ≤ 1048600) (hs : usSmall us) :
    Calls Try.prog 17 #[.slice A n c, .string b] w fun e w' => ∃ A' c', e = .returned (.slice A' (traceL false us b).length c') ∧ w'.ownsRow w.heap.size 9 1 (.slice A' (traceL false us b).length c') (traceL false us b).length ((traceL false us b).flatMap stCell) ∧ Below w.heap.size w w' := by
  cases h : areUses us
  · have E := Lib.hid (trace_no h false b)
    have H := Lib.hid h; clear h
    go_enter Try.func17, Try.ntmps17
    go_wp2_with fail
    refine (specAreUses _ _ _ us _ hr hn hs).mono ?_; rw [H.out]; rintro e w1 ⟨rfl, hb1⟩
    have OE := own_base (own_empty w1 w1.heap.size 9 1 (Nat.le_refl _)) hb1.size
    have b2 := hb1.alloc hb1.size (Obj.cells #[] 9)
    go_wp2_with fail
    rw [E.out]
    go_ret
    exact ⟨_, _, rfl, OE, b2⟩
  · have E := Lib.hid (show traceL false us b = sortO (restL false us b) by rw [traceL, if_pos h])
    have H := Lib.hid h; clear h
    rw [E.out]
    go_enter Try.func17, Try.ntmps17
    go_wp2_with fail
    refine (specAreUses _ _ _ us _ hr hn hs).mono ?_; rw [H.out]; rintro e w1 ⟨rfl, hb1⟩
    go_wp2_with fail
    refine (specWalkDown _ _ _ us b _ (hr.below hb1) hn).mono ?_; rintro e w2 ⟨A2, m2, c2, rfl, hm2, r2, hb2⟩
    have B2 := Lib.hid (below_then hb1 hb2)
    clear hb2
    go_wp2_with fail
    refine (specSortO _ _ _ (restL false us b) _ r2 (by omega)).mono ?_; rintro e w3 ⟨A3, c3, rfl, o3, hb3⟩
    have B3 := below_then B2.out hb3
    have o4 := own_base o3 B2.out.size
    clear hb3 o3
    go_wp2_with fail
    go_ret
    exact ⟨A3, c3, rfl, o4, B3⟩
set_option maxRecDepth 100000 in
set_option maxHeartbeats 4000000 in
theorem implMadeFrom (A : Option Addr) (n c : Nat) (us : List Us) (b : ByteArray) (w : World) (hr : RS w 3 A n (us.flatMap usCell)) (hn : n ≤ 1048600) (hs : usSmall us) :
    Calls Try.prog 11 #[.slice A n c, .string b] w fun e w' => ∃ A' c', e = .returned (.slice A' (traceL true us b).length c') ∧ w'.ownsRow w.heap.size 9 1 (.slice A' (traceL true us b).length c') (traceL true us b).length ((traceL true us b).flatMap stCell) ∧ Below w.heap.size w w' := by
  have hl := Lib.hid (hr.flatLen usCell_len (by omega))
  obtain ⟨i0, hi, hz0, hz1, hz2⟩ := info_parts stInfo
  cases h : areUses us
  · have E := Lib.hid (trace_no h true b)
    have H := Lib.hid h; clear h
    go_enter Try.func11, Try.ntmps11
    go_wp2_with fail
    refine (implAreUses _ _ _ us _ hr hn hs).mono ?_; rw [H.out]; rintro e w1 ⟨rfl, hb1⟩
    go_wp2_with fail
    rw [E.out]
    go_ret
    exact ⟨none, 0, rfl, own_none _ _ _ _, hb1⟩
  · have E := Lib.hid (trace_yes h true b)
    have H := Lib.hid h; clear h
    have RL := rest_len true us b
    have RB := (reach_len true us b)
    rw [hl.out] at RB
    obtain ⟨m, hm⟩ : ∃ m, (reachL true us b).length = m := ⟨_, rfl⟩
    go_enter Try.func11, Try.ntmps11
    go_wp2_with fail
    refine (implAreUses _ _ _ us _ hr hn hs).mono ?_; rw [H.out]; rintro e w1 ⟨rfl, hb1⟩
    go_wp2_with fail
    refine (implReachUp _ _ _ us b _ (hr.below hb1) hn).mono ?_; rintro e w2 ⟨A2, c2, v2, rfl, o2, hb2⟩
    have B2 := Lib.hid (below_then hb1 hb2)
    rw [hm] at o2 RL RB
    rw [hm]
    have ho := o2
    obtain ⟨g, rfl, hgb, hgs, _, hf⟩ := own_addr o2 (by omega)
    obtain ⟨A9, c9, ec, hcm, _⟩ := own_slice o2
    obtain rfl : c2 = c9 := by injection ec
    clear ec
    have rr := RS.of_own ho
    have z1 := hb1.size
    have i1 : (1 : Int) ≤ m := by omega
    have i3 : (m : Int) ≤ c2 := by omega
    have GL : w.heap.size ≤ g := by omega
    have TL := Lib.hid (show (sortT (restL true us b)).length = m - 1 by rw [sortT_len]; omega)
    obtain ⟨out, hout⟩ : ∃ o, sortT (restL true us b) = o := ⟨_, rfl⟩
    rw [hout] at E TL
    have RS0 : m = 1 → RS w2 1 (some ⟨g, 0, none⟩) 0 ((restL true us b).flatMap stCell) := fun h1 => by rw [rest_one (hm.trans h1)]; exact RS.nil _ _ _
    have RS1 := RS_rest rr (by omega)
    have B0 := B2.out.size
    by_cases hc1 : c2 = 1
    all_goals
      skip
    · obtain rfl : m = 1 := by omega
      subst hc1
      have SP := sort_part (c := 0) (RS0 rfl) hf hgs (by omega) (Nat.le_refl _)
      rw [hout] at SP
      clear RS0 RS1 rr ho hm
      go_wp2_with fail
      refine SP.mono ?_; rintro e w3 ⟨rfl, r3, g3⟩
      have B3 := B2.out.grown g3 B0 (fun j hj => by injection hj with hj; omega)
      have E0 := own_empty w3 w.heap.size 9 1 B3.size
      have z3 := B3.size
      clear g3 o2 SP
      go_wp2_with (at_builtin; refine wpList_app _ rfl _ _ _ rfl w.heap.size 9 i0 _ 1 16 Try.underlying24 hi hz0 hz1 hz2 rfl (by omega) _ 0 _ rfl E0 _ 0 _ _ rfl (r3.alloc _) (flat_one_cell stCell_one _) (by unfold maxLen; omega) (by omega) (by simp; omega) ?_; intro A5 c5 w5 o5 g5 at5 b5; rw [List.nil_append] at o5; have B5 := (B3.alloc z3 (Obj.cells #[] 9)).trans b5; clear g5 at5 b5)
      rw [E.out, TL.out]
      go_ret
      exact ⟨A5, c5, rfl, o5, B5⟩
    · obtain ⟨q, rfl⟩ : ∃ q, m = q + 1 := ⟨m - 1, by omega⟩
      have SP := sort_part (c := c2 - 1) RS1 hf hgs (by omega) (by omega)
      rw [hout] at SP
      have TL' := Lib.hid (show out.length = q from TL.out)
      have e1 : q + 1 - 1 = q := by omega
      rw [e1] at SP
      clear RS0 RS1 rr ho hm TL
      go_wp2_with fail
      refine SP.mono ?_; rintro e w3 ⟨rfl, r3, g3⟩
      have B3 := B2.out.grown g3 B0 (fun j hj => by injection hj with hj; omega)
      have E0 := own_empty w3 w.heap.size 9 1 B3.size
      have z3 := B3.size
      clear g3 o2 SP
      go_wp2_with (at_builtin; refine wpList_app _ rfl _ _ _ rfl w.heap.size 9 i0 _ 1 16 Try.underlying24 hi hz0 hz1 hz2 rfl (by omega) _ 0 _ rfl E0 _ q _ _ rfl (r3.alloc _) (flat_one_cell stCell_one _) (by unfold maxLen; omega) (by omega) (by simp; omega) ?_; intro A5 c5 w5 o5 g5 at5 b5; rw [Nat.zero_add, List.nil_append] at o5; have B5 := (B3.alloc z3 (Obj.cells #[] 9)).trans b5; clear g5 at5 b5)
      rw [E.out, TL'.out]
      go_ret
      exact ⟨A5, c5, by simp, o5, B5⟩
set_option maxRecDepth 100000 in
set_option maxHeartbeats 4000000 in
theorem specMadeFrom (A : Option Addr) (n c : Nat) (us : List Us) (b : ByteArray) (w : World) (hr : RS w 3 A n (us.flatMap usCell)) (hn : n ≤ 1048600) (hs : usSmall us) :
    Calls Try.prog 9 #[.slice A n c, .string b] w fun e w' => ∃ A' c', e = .returned (.slice A' (traceL true us b).length c') ∧ w'.ownsRow w.heap.size 9 1 (.slice A' (traceL true us b).length c') (traceL true us b).length ((traceL true us b).flatMap stCell) ∧ Below w.heap.size w w' := by
  cases h : areUses us
  · have E := Lib.hid (trace_no h true b)
    have H := Lib.hid h; clear h
    go_enter Try.func9, Try.ntmps9
    go_wp2_with fail
    refine (specAreUses _ _ _ us _ hr hn hs).mono ?_; rw [H.out]; rintro e w1 ⟨rfl, hb1⟩
    have OE := own_base (own_empty w1 w1.heap.size 9 1 (Nat.le_refl _)) hb1.size
    have b2 := hb1.alloc hb1.size (Obj.cells #[] 9)
    go_wp2_with fail
    rw [E.out]
    go_ret
    exact ⟨_, _, rfl, OE, b2⟩
  · have E := Lib.hid (show traceL true us b = sortO (restL true us b) by rw [traceL, if_pos h])
    have H := Lib.hid h; clear h
    rw [E.out]
    go_enter Try.func9, Try.ntmps9
    go_wp2_with fail
    refine (specAreUses _ _ _ us _ hr hn hs).mono ?_; rw [H.out]; rintro e w1 ⟨rfl, hb1⟩
    go_wp2_with fail
    refine (specWalkUp _ _ _ us b _ (hr.below hb1) hn).mono ?_; rintro e w2 ⟨A2, m2, c2, rfl, hm2, r2, hb2⟩
    have B2 := Lib.hid (below_then hb1 hb2)
    clear hb2
    go_wp2_with fail
    refine (specSortO _ _ _ (restL true us b) _ r2 (by omega)).mono ?_; rintro e w3 ⟨A3, c3, rfl, o3, hb3⟩
    have B3 := below_then B2.out hb3
    have o4 := own_base o3 B2.out.size
    clear hb3 o3
    go_wp2_with fail
    go_ret
    exact ⟨A3, c3, rfl, o4, B3⟩
end Go.Proofs.Ytaldlinekipblaa
