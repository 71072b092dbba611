/- The walks of copyLayers, ReceiveLayer and DropLayers. -/
import Derived.Test.YtknfhiepndffpaaLayA
import Derived.Test.YtknfhiepndffpaaLayB
import Derived.Test.YtknfhiepndffpaaLay2
namespace Go.Proofs.Ytknfhiepndffpaa
open Go.ChangeShapes Go.WideShapes Go.ChangeAt Go.RowKit

theorem copyLayers_any (A : Option Addr) (n c : Nat) (l : List Lay) (w : World) (hr : RS w 3 A n (layCells l)) (hn : n ≤ 1000000000) :
    Calls Try.prog 53 #[.slice A n c] w fun e w' => ∃ A' c', e = .returned (.slice A' n c') ∧ w'.ownsRow w.heap.size 46 3 (.slice A' n c') n (layCells l) ∧ Below w.heap.size w w' := by
  obtain ⟨i0, hi, hz0, hz1, hz2⟩ := info_parts layInfo
  go_enter Try.func53, Try.ntmps53
  go_wp2_with (at_builtin; refine wpList_app _ rfl _ _ _ rfl w.heap.size 46 i0 _ 3 24 Try.underlying24 hi hz0 hz1 hz2 rfl (by omega) _ 0 [] rfl (own_empty w w.heap.size 46 3 (Nat.le_refl _)) A n c (layCells l) rfl (hr.alloc _) (layCells_one l) (by unfold maxLen; omega) (by omega) (by simp) ?_; intro A1 c1 w1 ho1 _ _ hb1)
  go_ret
  simp only [Nat.zero_add, List.nil_append] at ho1 ⊢
  exact ⟨A1, c1, rfl, ho1, (below_box w _).trans hb1⟩

set_option maxHeartbeats 1000000 in
theorem implReceive (A : Option Addr) (n c : Nat) (l : List Lay) (q v : Int) (w : World) (hr : RS w 3 A n (layCells l)) (hn : n ≤ 100000000) :
    Calls Try.prog 35 #[.slice A n c, .int .i64 q, .int .i64 v] w fun e w' => ∃ A' c', e = .returned (.tuple #[.slice A' (recvOut l q v).length c', .bool (areLayers (recvL l q v))]) ∧
      w'.ownsRow w.heap.size 46 3 (.slice A' (recvOut l q v).length c') (recvOut l q v).length (layCells (recvOut l q v)) ∧ Below w.heap.size w w' := by
  obtain ⟨i0, hi, hz0, hz1, hz2⟩ := info_parts layInfo
  have hl := Lib.hid hr.lay
  go_enter Try.func35, Try.ntmps35
  go_wp2_with fail
  refine (copyLayers_any _ _ _ l _ hr (by omega)).mono ?_; rintro e w1 ⟨A1, c1, rfl, ho1, hb1⟩
  go_wp2_with (at_builtin; refine wpList_app _ rfl _ _ _ rfl w.heap.size 46 i0 _ 3 24 Try.underlying24 hi hz0 hz1 hz2 rfl (by omega) _ n (layCells l) rfl (ho1.alloc _) _ 1 1 (layCells [⟨q, v, 0⟩]) rfl (RS_new (by simp)) (layCells_one _) (by unfold maxLen; omega) (by omega) (by have := hb1.size; simp; omega) ?_; intro A2 c2 w2 ho2 _ _ hb2)
  have b2 : Below w.heap.size w w2 := (hb1.alloc hb1.size _).trans hb2
  rw [← layCells_append] at ho2
  have HL : (recvL l q v).length = n + 1 := by rw [recvL, List.length_append, hl.out]; rfl
  have HH := Lib.hid HL; clear HL
  refine (implAreLayers _ _ _ (recvL l q v) _ (RS.of_own ho2) (by omega)).mono ?_; rintro e w3 ⟨rfl, hb3⟩
  have b3 := below_then b2 hb3
  have ho3 := own_below ho2 hb3
  clear ho1 ho2 hb1 hb2 hb3 b2
  cases h : areLayers (recvL l q v)
  · go_wp2_with fail
    go_ret2
    have e : recvOut l q v = [] := by simp [recvOut, h]
    rw [e, h]
    exact ⟨none, 0, rfl, World.ownsRow_nil _ _ _ _, b3⟩
  · go_wp2_with fail
    go_ret2
    have e : recvOut l q v = recvL l q v := by simp [recvOut, h]
    rw [e, HH.out, h]
    exact ⟨A2, c2, rfl, ho3, b3⟩
set_option maxHeartbeats 1000000 in
theorem specReceive (A : Option Addr) (n c : Nat) (l : List Lay) (q v : Int) (w : World) (hr : RS w 3 A n (layCells l)) (hn : n ≤ 100000000) :
    Calls Try.prog 34 #[.slice A n c, .int .i64 q, .int .i64 v] w fun e w' => ∃ A' c', e = .returned (.tuple #[.slice A' (recvOut l q v).length c', .bool (areLayers (recvL l q v))]) ∧
      w'.ownsRow w.heap.size 46 3 (.slice A' (recvOut l q v).length c') (recvOut l q v).length (layCells (recvOut l q v)) ∧ Below w.heap.size w w' := by
  obtain ⟨i0, hi, hz0, hz1, hz2⟩ := info_parts layInfo
  have hl := Lib.hid hr.lay
  go_enter Try.func34, Try.ntmps34
  go_wp2_with (first | (at_builtin; refine wpList_app _ rfl (.tmp 9) (.tmp 10) _ rfl w.heap.size 46 i0 _ 3 24 Try.underlying24 hi hz0 hz1 hz2 rfl (by omega) _ 0 [] rfl (own_empty w w.heap.size 46 3 (Nat.le_refl _)) A n c (layCells l) rfl (hr.alloc _) (layCells_one l) (by unfold maxLen; omega) (by omega) (by simp) ?_; intro A1 c1 w1 ho1 _ _ hb1; simp only [Nat.zero_add, List.nil_append] at ho1; have z1 := hb1.size; simp only [World.size_alloc] at z1) | (at_builtin; refine wpList_app _ rfl (.tmp 11) (.tmp 15) _ rfl w.heap.size 46 i0 _ 3 24 Try.underlying24 hi hz0 hz1 hz2 rfl (by omega) _ n (layCells l) rfl (ho1.alloc _) _ 1 1 (layCells [⟨q, v, 0⟩]) rfl (RS_new (by simp)) (layCells_one _) (by unfold maxLen; omega) (by omega) (by simp; omega) ?_; intro A2 c2 w2 ho2 _ _ hb2))
  have b1 : Below w.heap.size w w1 := (below_box w _).trans hb1
  have b2 : Below w.heap.size w w2 := (b1.alloc b1.size _).trans hb2
  rw [← layCells_append] at ho2
  have HL : (recvL l q v).length = n + 1 := by rw [recvL, List.length_append, hl.out]; rfl
  have HH := Lib.hid HL; clear HL
  refine (specAreLayers _ _ _ (recvL l q v) _ (RS.of_own ho2) (by omega)).mono ?_; rintro e w3 ⟨rfl, hb3⟩
  have b3 := below_then b2 hb3
  have ho3 := own_below ho2 hb3
  clear ho1 ho2 hb1 hb2 hb3 b2 b1 z1
  cases h : areLayers (recvL l q v)
  · go_wp2_with fail
    go_ret2
    have e : recvOut l q v = [] := by simp [recvOut, h]
    rw [e, h]
    exact ⟨_, _, rfl, own_empty _ _ _ _ b3.size, b3.alloc b3.size _⟩
  · go_wp2_with fail
    go_ret2
    have e : recvOut l q v = recvL l q v := by simp [recvOut, h]
    rw [e, HH.out, h]
    exact ⟨A2, c2, rfl, ho3, b3⟩

set_option maxHeartbeats 1000000 in
theorem implDrop (A : Option Addr) (n c : Nat) (l : List Lay) (w : World) (hr : RS w 3 A n (layCells l)) (hn : n ≤ 100000000) :
    Calls Try.prog 39 #[.slice A n c] w fun e w' => ∃ A' c', e = .returned (.slice A' (dropOut l).length c') ∧
      w'.ownsRow w.heap.size 46 3 (.slice A' (dropOut l).length c') (dropOut l).length (layCells (dropOut l)) ∧ Below w.heap.size w w' := by
  obtain ⟨i0, hi, hz0, hz1, hz2⟩ := info_parts layInfo
  have hl := Lib.hid hr.lay
  cases h : areLayers l
  · go_enter Try.func39, Try.ntmps39
    go_wp2_with (go_at_call 29; refine (implAreLayers _ _ _ l _ (hr.alloc _) (by omega)).mono ?_; rw [h]; rintro e w1 ⟨rfl, hb1⟩)
    go_ret
    have e : dropOut l = [] := by simp [dropOut, h]
    rw [e]
    exact ⟨_, _, rfl, own_below (own_empty w _ _ _ (Nat.le_refl _)) hb1, below_then (below_box w _) hb1⟩
  · have n24 : n ≤ 24 := by rw [← hl.out]; exact areLayers_len h
    have e : dropOut l = dropTo l n := by rw [dropOut, if_pos h, hl.out]
    rw [e]; clear e
    go_enter Try.func39, Try.ntmps39
    go_wp2_with (go_at_call 29; refine (implAreLayers _ _ _ l _ (hr.alloc _) (by omega)).mono ?_; rw [h]; rintro e w1 ⟨rfl, hb1⟩)
    clear h
    have b1 := below_then (below_box w _) hb1
    have ho1 := own_below (own_empty w w.heap.size 46 3 (Nat.le_refl _)) hb1
    clear hb1
    go_loopw [3, 13] (fun v i wr => ∃ k : Nat, k ≤ n ∧ i = .int .i64 k ∧ Below w.heap.size w wr ∧ ∃ A' c', v = .slice A' (dropTo l k).length c' ∧ wr.ownsRow w.heap.size 46 3 (.slice A' (dropTo l k).length c') (dropTo l k).length (layCells (dropTo l k))) (fun _ i _ => n - (intOf i).toNat)
    case atStart => exact ⟨0, Nat.zero_le _, rfl, b1, _, _, rfl, ho1⟩
    case round =>
      obtain ⟨k, hk, rfl, hb, A', c', rfl, ho⟩ := hrel
      clear b1 ho1
      by_cases hlt : k < n
      · obtain ⟨g, off, rfl, q, v, u, hx, hq, hv, hu⟩ := (hr.below hb).layAt hlt
        have DL := dropTo_len l k
        have HX := Lib.hid hx; clear hx
        by_cases huq : u < q
        · go_wp2_with (at_builtin; refine wpList_app _ rfl _ _ _ rfl w.heap.size 46 i0 _ 3 24 Try.underlying24 hi hz0 hz1 hz2 rfl (by omega) _ _ (layCells (dropTo l k)) rfl ((ho.alloc _).alloc _) _ 1 1 (layCells [⟨q, v, u⟩]) rfl (RS_new2 (by simp)) (layCells_one _) (by unfold maxLen; omega) (by omega) (by have := hb.size; simp; omega) ?_; intro A2 c2 w2 ho2 _ _ hb2)
          go_roundw
          case rel =>
            rw [← layCells_append, ← dropTo_yes HX.out huq] at ho2
            refine ⟨k + 1, by omega, by go_num, ((hb.alloc hb.size _).alloc (by have := hb.size; simp; omega) _).trans hb2, A2, c2, ?_, ?_⟩
            · rw [dropTo_yes HX.out huq, List.length_append]; rfl
            · have e2 : (dropTo l k).length + 1 = (dropTo l (k + 1)).length := by rw [dropTo_yes HX.out huq, List.length_append]; rfl
              rw [← e2]; exact ho2
          case measure => simp [intOf]; omega
        · go_wp2
          go_roundw
          case rel =>
            refine ⟨k + 1, by omega, by go_num, hb.alloc hb.size _, A', c', ?_, ?_⟩
            · rw [dropTo_no HX.out (by show ¬ u < q; omega)]
            · rw [dropTo_no HX.out (by show ¬ u < q; omega)]; exact ho.alloc _
          case measure => simp [intOf]; omega
      · go_wp2
        have : k = n := by omega
        subst this
        go_ret
        exact ⟨_, _, rfl, ho, hb⟩
set_option maxHeartbeats 1000000 in
theorem specDrop (A : Option Addr) (n c : Nat) (l : List Lay) (w : World) (hr : RS w 3 A n (layCells l)) (hn : n ≤ 100000000) :
    Calls Try.prog 38 #[.slice A n c] w fun e w' => ∃ A' c', e = .returned (.slice A' (dropOut l).length c') ∧
      w'.ownsRow w.heap.size 46 3 (.slice A' (dropOut l).length c') (dropOut l).length (layCells (dropOut l)) ∧ Below w.heap.size w w' := by
  obtain ⟨i0, hi, hz0, hz1, hz2⟩ := info_parts layInfo
  have hl := Lib.hid hr.lay
  cases h : areLayers l
  · have H := Lib.hid h
    have e : dropOut l = [] := by simp [dropOut, h]
    rw [e]; clear e h
    by_cases h0 : 0 < n
    · go_enter Try.func38, Try.ntmps38
      go_wp2
      refine wp_loop_once ?_
      go_wp2_with (go_at_call 27; refine (specAreLayers _ _ _ l _ (hr.alloc _) (by omega)).mono ?_; rw [H.out]; rintro e w1 ⟨rfl, hb1⟩)
      go_ret
      exact ⟨_, _, rfl, own_below (own_empty w _ _ _ (Nat.le_refl _)) hb1, below_then (below_box w _) hb1⟩
    · go_enter Try.func38, Try.ntmps38
      go_wp2
      refine wp_loop_once ?_
      go_wp2_with (go_at_call 27; refine (specAreLayers _ _ _ l _ (hr.alloc _) (by omega)).mono ?_; rw [H.out]; rintro e w1 ⟨rfl, hb1⟩)
      go_ret
      exact ⟨_, _, rfl, own_empty w _ _ _ (Nat.le_refl _), below_box w _⟩
  · have n24 : n ≤ 24 := by rw [← hl.out]; exact areLayers_len h
    have e : dropOut l = dropTo l n := by rw [dropOut, if_pos h, hl.out]
    have H := Lib.hid h
    rw [e]; clear e h
    go_enter Try.func38, Try.ntmps38
    go_wp2
    go_loopw [3, 4] (fun v i wr => ∃ k : Nat, k ≤ n ∧ i = .int .i64 k ∧ Below w.heap.size w wr ∧ ∃ A' c', v = .slice A' (dropTo l k).length c' ∧ wr.ownsRow w.heap.size 46 3 (.slice A' (dropTo l k).length c') (dropTo l k).length (layCells (dropTo l k))) (fun _ i _ => n - (intOf i).toNat)
    case atStart => exact ⟨0, Nat.zero_le _, rfl, below_box w _, _, _, rfl, own_empty w _ _ _ (Nat.le_refl _)⟩
    case round =>
      obtain ⟨k, hk, rfl, hb, A', c', rfl, ho⟩ := hrel
      by_cases hlt : k < n
      · obtain ⟨g, off, rfl, q, v, u, hx, hq, hv, hu⟩ := (hr.below hb).layAt hlt
        have DL := dropTo_len l k
        have HX := Lib.hid hx; clear hx
        have i1 : (0 : Int) ≤ k := by omega
        have i2 : (k : Int) < n := by omega
        by_cases huq : u < q
        · go_wp2_with (go_at_call 27; refine (specAreLayers _ _ _ l _ (hr.below hb) (by omega)).mono ?_; rw [H.out]; rintro e w1 ⟨rfl, hb1⟩; have hq1 := cell_keep hb1 hq; have hv1 := cell_keep hb1 hv; have hu1 := cell_keep hb1 hu; have b1 := below_app hb hb1 hb.size; have ho1 := own_below ho hb1; clear hq hv hu)
          go_quiet (fail)
          go_wp2_with (at_builtin; refine wpList_app _ rfl _ _ _ rfl w.heap.size 46 i0 _ 3 24 Try.underlying24 hi hz0 hz1 hz2 rfl (by omega) _ _ (layCells (dropTo l k)) rfl ((own_below ho1 (below_drewN (Below.refl _ _) nq)).alloc _) _ 1 1 (layCells [⟨q, v, u⟩]) rfl (RS_new (by simp)) (layCells_one _) (by unfold maxLen; omega) (by omega) (by have := b1.size; simp; omega) ?_; intro A2 c2 w2 ho2 _ _ hb2)
          go_roundw
          case rel =>
            rw [← layCells_append, ← dropTo_yes HX.out huq] at ho2
            refine ⟨k + 1, by omega, by go_num, ((below_drewN b1 nq).alloc b1.size _).trans hb2, A2, c2, ?_, ?_⟩
            · rw [dropTo_yes HX.out huq, List.length_append]; rfl
            · have e2 : (dropTo l k).length + 1 = (dropTo l (k + 1)).length := by rw [dropTo_yes HX.out huq, List.length_append]; rfl
              rw [← e2]; exact ho2
          case measure => simp [intOf]; omega
        · go_wp2_with (go_at_call 27; refine (specAreLayers _ _ _ l _ (hr.below hb) (by omega)).mono ?_; rw [H.out]; rintro e w1 ⟨rfl, hb1⟩; have hq1 := cell_keep hb1 hq; have hv1 := cell_keep hb1 hv; have hu1 := cell_keep hb1 hu; have b1 := below_app hb hb1 hb.size; have ho1 := own_below ho hb1; clear hq hv hu)
          go_quiet (fail)
          go_wp2
          go_roundw
          case rel =>
            refine ⟨k + 1, by omega, by go_num, below_drewN b1 nq, A', c', ?_, ?_⟩
            · rw [dropTo_no HX.out (by show ¬ u < q; omega)]
            · rw [dropTo_no HX.out (by show ¬ u < q; omega)]; exact own_below ho1 (below_drewN (Below.refl _ _) nq)
          case measure => simp [intOf]; omega
      · go_wp2
        have : k = n := by omega
        subst this
        go_ret
        exact ⟨_, _, rfl, ho, hb⟩
end Go.Proofs.Ytknfhiepndffpaa
