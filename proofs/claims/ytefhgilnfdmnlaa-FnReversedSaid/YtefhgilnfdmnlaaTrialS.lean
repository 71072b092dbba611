/- The walk of l35Add. No condition. -/
import Derived.Test.YtefhgilnfdmnlaaTrialP
import Derived.Test.YtefhgilnfdmnlaaSub
namespace Go.Proofs.Ytefhgilnfdmnlaa
open Go.ChangeShapes Go.WideShapes Go.ChangeAt Go.RowKit

theorem add_end {w : World} {base c N : Nat} {A : Option Addr} {xs : List Value} {T : List En} (ho : w.ownsRow base 47 2 (.slice A N c) N xs) (hx : xs = T.flatMap enCell) :
    w.ownsRow base 47 2 (.slice A T.length c) T.length (T.flatMap enCell) ∧ N = T.length := by
  have h := ho.1
  rw [hx, flat_len enCell enCell_len] at h
  obtain rfl : N = T.length := by omega
  rw [hx] at ho
  exact ⟨ho, rfl⟩
set_option maxRecDepth 100000 in
set_option maxHeartbeats 4000000 in
theorem specAdd (A : Option Addr) (n c : Nat) (T : List En) (acc : ByteArray) (amt : Int) (w : World) (hr : RS w 2 A n (T.flatMap enCell)) (hn : n ≤ 1048600) (hc : n ≤ c) (hb : ∀ x ∈ T, -9000000000000000000 ≤ amt + x.amt ∧ amt + x.amt ≤ 9000000000000000000) :
    Calls Try.prog 62 #[.slice A n c, .string acc, .int .i64 amt] w fun e w' => ∃ A' c', e = .returned (.slice A' (addE T acc amt).length c') ∧ w'.ownsRow w.heap.size 47 2 (.slice A' (addE T acc amt).length c') (addE T acc amt).length ((addE T acc amt).flatMap enCell) ∧ Below w.heap.size w w' := by
  have hl := Lib.hid (hr.flatLen enCell_len (by omega))
  have HB := Lib.hid hb; clear hb
  obtain ⟨i0, hi, hz0, hz1, hz2⟩ := info_parts enInfo
  have E0 := own_empty w w.heap.size 47 2 (Nat.le_refl _)
  by_cases h0 : n = 0
  · subst h0
    obtain rfl : T = [] := List.eq_nil_of_length_eq_zero hl.out
    by_cases hz : amt = 0
    · subst hz
      by_cases c0 : c = 0
      all_goals
        rcases A with _ | ⟨⟨g, off, sp⟩⟩
        all_goals
          go_enter Try.func62, Try.ntmps62
          go_wp2
          refine wp_loop_once ?_
          go_wp2_with (first
            | (at_builtin; refine wpList_app _ rfl _ _ _ rfl w.heap.size 47 i0 _ 2 24 Try.underlying25 hi hz0 hz1 hz2 rfl (by omega) _ 0 [] rfl E0 _ 0 _ _ rfl (((RS.nil _ _ _ : RS w 2 _ 0 (([] : List En).flatMap enCell))).alloc _) (by simp) (by unfold maxLen; omega) (by omega) (by simp) ?_; intro A2 c2 w2 o2 g2 at2 b2
               rw [Nat.zero_add, List.nil_append] at o2
               have B2 := (below_box w (Obj.cells #[] 47)).trans b2
               have z2 := B2.size
               clear g2 at2 b2)
            | (at_builtin; refine wpList_app _ rfl _ _ _ rfl w.heap.size 47 i0 _ 2 24 Try.underlying25 hi hz0 hz1 hz2 rfl (by omega) _ 0 _ rfl o2 _ 0 _ _ rfl (((RS.nil _ _ _ : RS w 2 _ 0 (([] : List En).flatMap enCell))).below B2) (by simp) (by unfold maxLen; omega) (by omega) (by omega) ?_; intro A4 c4 w4 o4 g4 at4 b4
               have B4 := B2.trans b4
               clear g4 at4 b4))
          go_ret
          obtain ⟨o5, e5⟩ := add_end o4 (T := addE [] acc 0) (by simp [addE])
          have q : ∀ m, m = (addE [] acc 0).length → Ending.returned (Value.slice A4 m c4) = Ending.returned (Value.slice A4 (addE [] acc 0).length c4) := fun m h => by rw [h]
          exact ⟨A4, c4, q _ (by omega), o5, B4⟩
    · skip
      by_cases c0 : c = 0
      all_goals
        rcases A with _ | ⟨⟨g, off, sp⟩⟩
        all_goals
          go_enter Try.func62, Try.ntmps62
          go_wp2
          refine wp_loop_once ?_
          go_wp2_with (first
            | (at_builtin; refine wpList_app _ rfl _ _ _ rfl w.heap.size 47 i0 _ 2 24 Try.underlying25 hi hz0 hz1 hz2 rfl (by omega) _ 0 [] rfl E0 _ 0 _ _ rfl (((RS.nil _ _ _ : RS w 2 _ 0 (([] : List En).flatMap enCell))).alloc _) (by simp) (by unfold maxLen; omega) (by omega) (by simp) ?_; intro A2 c2 w2 o2 g2 at2 b2
               rw [Nat.zero_add, List.nil_append] at o2
               have B2 := (below_box w (Obj.cells #[] 47)).trans b2
               have z2 := B2.size
               clear g2 at2 b2)
            | (at_builtin; refine wpList_app _ rfl _ _ _ rfl w.heap.size 47 i0 _ 2 24 Try.underlying25 hi hz0 hz1 hz2 rfl (by omega) _ 0 _ rfl (o2.alloc _) _ 1 1 (enCell ⟨acc, amt⟩) rfl (RS_new (by simp)) (enCell_one _) (by unfold maxLen; omega) (by omega) (by simp; omega) ?_; intro A3 c3 w3 o3 g3 at3 b3
               have B3 := (B2.alloc B2.size (Obj.cells #[.string acc, .int .i64 (amt)] 47)).trans b3
               have z3 := B3.size
               clear g3 at3 b3)
            | (at_builtin; refine wpList_app _ rfl _ _ _ rfl w.heap.size 47 i0 _ 2 24 Try.underlying25 hi hz0 hz1 hz2 rfl (by omega) _ (0 + 1) _ rfl o3 _ 0 _ _ rfl (((RS.nil _ _ _ : RS w 2 _ 0 (([] : List En).flatMap enCell))).below B3) (by simp) (by unfold maxLen; omega) (by omega) (by omega) ?_; intro A4 c4 w4 o4 g4 at4 b4
               have B4 := B3.trans b4
               clear g4 at4 b4))
          go_ret
          obtain ⟨o5, e5⟩ := add_end o4 (T := addE [] acc amt) (by simp [addE, enCell, hz])
          have q : ∀ m, m = (addE [] acc amt).length → Ending.returned (Value.slice A4 m c4) = Ending.returned (Value.slice A4 (addE [] acc amt).length c4) := fun m h => by rw [h]
          exact ⟨A4, c4, q _ (by omega), o5, B4⟩
  · obtain ⟨g, off, rfl, _⟩ := hr.at_ (by omega)
    have c0 : ¬ c = 0 := by omega
    have AD := fun j => add_mk g off j
    go_enter Try.func62, Try.ntmps62
    go_wp2
    go_loop [7] (fun i => ∃ k : Nat, k ≤ n ∧ i = .int .i64 k ∧ Hid (∀ (j : Nat) (x : En), j < k → T[j]? = some x → txtLess x.acc acc = true)) (fun i => n - (intOf i).toNat)
    case atStart => exact ⟨0, Nat.zero_le _, rfl, fun j x h => absurd h (Nat.not_lt_zero _)⟩
    case round =>
      obtain ⟨k, hk, rfl, hle⟩ := hrel
      by_cases hlt : k < n
      · obtain ⟨g', off', hA, ⟨xa, xm⟩, hx, h0, h1⟩ := hr.enAt hlt
        obtain ⟨rfl, rfl⟩ : g = g' ∧ off = off' := by simpa using hA
        simp only at h0 h1
        have HX := Lib.hid hx; clear hx hA
        have H0 := Lib.hid h0; have H1 := Lib.hid h1
        have i1 : (0 : Int) ≤ k := by omega
        have i2 : (k : Int) < n := by omega
        cases hless : Op.bytesLess xa.toList acc.toList
        · have ck : ¬ c = k := by omega
          have AD2 := fun j => add_mk g (off + k * 2) j
          have W1 := (HB.out _ (List.mem_of_getElem? HX.out))
          simp only at W1
          by_cases he : xa = acc
          · obtain rfl := he.symm
            have AE := Lib.hid (addE_hit (amt := amt) hle.out HX.out hless rfl)
            simp only at AE
            by_cases hz : amt + xm = 0
            all_goals
              by_cases hck : c - k = 1
              all_goals skip
            · obtain rfl : n = k + 1 := by omega
              go_wp2_with (first
                | (at_builtin; refine wpList_app _ rfl _ _ _ rfl w.heap.size 47 i0 _ 2 24 Try.underlying25 hi hz0 hz1 hz2 rfl (by omega) _ 0 [] rfl E0 _ k _ _ rfl ((hr.flatTake enCell_len (by omega) hk).alloc _) (flat_one_cell enCell_one _) (by unfold maxLen; omega) (by omega) (by simp) ?_; intro A2 c2 w2 o2 g2 at2 b2
                   rw [Nat.zero_add, List.nil_append] at o2
                   have B2 := (below_box w (Obj.cells #[] 47)).trans b2
                   have z2 := B2.size
                   have h0 := cell_keep B2 H0.out; have h1 := cell_keep B2 H1.out
                   clear g2 at2 b2)
                | (at_builtin; refine wpList_app _ rfl _ _ _ rfl w.heap.size 47 i0 _ 2 24 Try.underlying25 hi hz0 hz1 hz2 rfl (by omega) _ k _ rfl o2 _ 0 _ _ rfl (((RS.nil _ _ _ : RS w 2 _ 0 (([] : List En).flatMap enCell))).below B2) (by simp) (by unfold maxLen; omega) (by omega) (by omega) ?_; intro A4 c4 w4 o4 g4 at4 b4
                   have B4 := B2.trans b4
                   clear g4 at4 b4))
              go_ret
              obtain ⟨o5, e5⟩ := add_end o4 (T := addE T acc amt) (by rw [AE.out, if_pos hz, List.append_nil, List.drop_eq_nil_of_le (by rw [hl.out]; omega), List.append_nil, List.append_nil])
              have q : ∀ m, m = (addE T acc amt).length → Ending.returned (Value.slice A4 m c4) = Ending.returned (Value.slice A4 (addE T acc amt).length c4) := fun m h => by rw [h]
              exact ⟨A4, c4, q _ (by omega), o5, B4⟩
            · go_wp2_with (first
                | (at_builtin; refine wpList_app _ rfl _ _ _ rfl w.heap.size 47 i0 _ 2 24 Try.underlying25 hi hz0 hz1 hz2 rfl (by omega) _ 0 [] rfl E0 _ k _ _ rfl ((hr.flatTake enCell_len (by omega) hk).alloc _) (flat_one_cell enCell_one _) (by unfold maxLen; omega) (by omega) (by simp) ?_; intro A2 c2 w2 o2 g2 at2 b2
                   rw [Nat.zero_add, List.nil_append] at o2
                   have B2 := (below_box w (Obj.cells #[] 47)).trans b2
                   have z2 := B2.size
                   have h0 := cell_keep B2 H0.out; have h1 := cell_keep B2 H1.out
                   clear g2 at2 b2)
                | (at_builtin; refine wpList_app _ rfl _ _ _ rfl w.heap.size 47 i0 _ 2 24 Try.underlying25 hi hz0 hz1 hz2 rfl (by omega) _ k _ rfl o2 _ (n - k - 1) _ _ rfl (((hr.flatDrop (k := (k + 1)) enCell_len (by omega) (by omega) (fun _ g1 o1 e1 => by simp at e1; obtain ⟨rfl, rfl⟩ := e1; first | rfl | (congr 2; omega) | (simp; omega)) : RS w 2 _ (n - (k + 1)) _)).below B2) (flat_one_cell enCell_one _) (by unfold maxLen; omega) (by omega) (by omega) ?_; intro A4 c4 w4 o4 g4 at4 b4
                   have B4 := B2.trans b4
                   clear g4 at4 b4))
              go_ret
              obtain ⟨o5, e5⟩ := add_end o4 (T := addE T acc amt) (by rw [AE.out, if_pos hz, List.append_nil]; exact (flat_append _ _ _).symm)
              have q : ∀ m, m = (addE T acc amt).length → Ending.returned (Value.slice A4 m c4) = Ending.returned (Value.slice A4 (addE T acc amt).length c4) := fun m h => by rw [h]
              exact ⟨A4, c4, q _ (by omega), o5, B4⟩
            · obtain rfl : n = k + 1 := by omega
              go_wp2_with (first
                | (at_builtin; refine wpList_app _ rfl _ _ _ rfl w.heap.size 47 i0 _ 2 24 Try.underlying25 hi hz0 hz1 hz2 rfl (by omega) _ 0 [] rfl E0 _ k _ _ rfl ((hr.flatTake enCell_len (by omega) hk).alloc _) (flat_one_cell enCell_one _) (by unfold maxLen; omega) (by omega) (by simp) ?_; intro A2 c2 w2 o2 g2 at2 b2
                   rw [Nat.zero_add, List.nil_append] at o2
                   have B2 := (below_box w (Obj.cells #[] 47)).trans b2
                   have z2 := B2.size
                   have h0 := cell_keep B2 H0.out; have h1 := cell_keep B2 H1.out
                   clear g2 at2 b2)
                | (at_builtin; refine wpList_app _ rfl _ _ _ rfl w.heap.size 47 i0 _ 2 24 Try.underlying25 hi hz0 hz1 hz2 rfl (by omega) _ k _ rfl (o2.alloc _) _ 1 1 (enCell ⟨acc, amt + xm⟩) rfl (RS_new (by simp)) (enCell_one _) (by unfold maxLen; omega) (by omega) (by simp; omega) ?_; intro A3 c3 w3 o3 g3 at3 b3
                   have B3 := (B2.alloc B2.size (Obj.cells #[.string acc, .int .i64 (amt + xm)] 47)).trans b3
                   have z3 := B3.size
                   clear g3 at3 b3)
                | (at_builtin; refine wpList_app _ rfl _ _ _ rfl w.heap.size 47 i0 _ 2 24 Try.underlying25 hi hz0 hz1 hz2 rfl (by omega) _ (k + 1) _ rfl o3 _ 0 _ _ rfl (((RS.nil _ _ _ : RS w 2 _ 0 (([] : List En).flatMap enCell))).below B3) (by simp) (by unfold maxLen; omega) (by omega) (by omega) ?_; intro A4 c4 w4 o4 g4 at4 b4
                   have B4 := B3.trans b4
                   clear g4 at4 b4))
              go_ret
              obtain ⟨o5, e5⟩ := add_end o4 (T := addE T acc amt) (by rw [AE.out, if_neg hz, List.drop_eq_nil_of_le (by rw [hl.out]; omega), flat_append, flat_append, flat_one]; rfl)
              have q : ∀ m, m = (addE T acc amt).length → Ending.returned (Value.slice A4 m c4) = Ending.returned (Value.slice A4 (addE T acc amt).length c4) := fun m h => by rw [h]
              exact ⟨A4, c4, q _ (by omega), o5, B4⟩
            · go_wp2_with (first
                | (at_builtin; refine wpList_app _ rfl _ _ _ rfl w.heap.size 47 i0 _ 2 24 Try.underlying25 hi hz0 hz1 hz2 rfl (by omega) _ 0 [] rfl E0 _ k _ _ rfl ((hr.flatTake enCell_len (by omega) hk).alloc _) (flat_one_cell enCell_one _) (by unfold maxLen; omega) (by omega) (by simp) ?_; intro A2 c2 w2 o2 g2 at2 b2
                   rw [Nat.zero_add, List.nil_append] at o2
                   have B2 := (below_box w (Obj.cells #[] 47)).trans b2
                   have z2 := B2.size
                   have h0 := cell_keep B2 H0.out; have h1 := cell_keep B2 H1.out
                   clear g2 at2 b2)
                | (at_builtin; refine wpList_app _ rfl _ _ _ rfl w.heap.size 47 i0 _ 2 24 Try.underlying25 hi hz0 hz1 hz2 rfl (by omega) _ k _ rfl (o2.alloc _) _ 1 1 (enCell ⟨acc, amt + xm⟩) rfl (RS_new (by simp)) (enCell_one _) (by unfold maxLen; omega) (by omega) (by simp; omega) ?_; intro A3 c3 w3 o3 g3 at3 b3
                   have B3 := (B2.alloc B2.size (Obj.cells #[.string acc, .int .i64 (amt + xm)] 47)).trans b3
                   have z3 := B3.size
                   clear g3 at3 b3)
                | (at_builtin; refine wpList_app _ rfl _ _ _ rfl w.heap.size 47 i0 _ 2 24 Try.underlying25 hi hz0 hz1 hz2 rfl (by omega) _ (k + 1) _ rfl o3 _ (n - k - 1) _ _ rfl (((hr.flatDrop (k := (k + 1)) enCell_len (by omega) (by omega) (fun _ g1 o1 e1 => by simp at e1; obtain ⟨rfl, rfl⟩ := e1; first | rfl | (congr 2; omega) | (simp; omega)) : RS w 2 _ (n - (k + 1)) _)).below B3) (flat_one_cell enCell_one _) (by unfold maxLen; omega) (by omega) (by omega) ?_; intro A4 c4 w4 o4 g4 at4 b4
                   have B4 := B3.trans b4
                   clear g4 at4 b4))
              go_ret
              obtain ⟨o5, e5⟩ := add_end o4 (T := addE T acc amt) (by rw [AE.out, if_neg hz, flat_append, flat_append, flat_one])
              have q : ∀ m, m = (addE T acc amt).length → Ending.returned (Value.slice A4 m c4) = Ending.returned (Value.slice A4 (addE T acc amt).length c4) := fun m h => by rw [h]
              exact ⟨A4, c4, q _ (by omega), o5, B4⟩
          · have AE := Lib.hid (addE_miss (amt := amt) hle.out HX.out hless he)
            have hne := text_ne he
            have hneb := text_neB he
            by_cases hz : amt = 0
            · have AE1 := AE.out
              rw [if_pos hz, List.append_nil] at AE1
              clear AE
              have AE := Lib.hid AE1
              clear AE1
              subst hz
              go_wp2_with (first
                | (at_builtin; refine wpList_app _ rfl _ _ _ rfl w.heap.size 47 i0 _ 2 24 Try.underlying25 hi hz0 hz1 hz2 rfl (by omega) _ 0 [] rfl E0 _ k _ _ rfl ((hr.flatTake enCell_len (by omega) hk).alloc _) (flat_one_cell enCell_one _) (by unfold maxLen; omega) (by omega) (by simp) ?_; intro A2 c2 w2 o2 g2 at2 b2
                   rw [Nat.zero_add, List.nil_append] at o2
                   have B2 := (below_box w (Obj.cells #[] 47)).trans b2
                   have z2 := B2.size
                   have h0 := cell_keep B2 H0.out; have h1 := cell_keep B2 H1.out
                   clear g2 at2 b2)
                | (at_builtin; refine wpList_app _ rfl _ _ _ rfl w.heap.size 47 i0 _ 2 24 Try.underlying25 hi hz0 hz1 hz2 rfl (by omega) _ k _ rfl o2 _ (n - k) _ _ rfl ((hr.flatDrop (k := k) enCell_len (by omega) (by omega) (fun _ g1 o1 e1 => by simp at e1; obtain ⟨rfl, rfl⟩ := e1; first | rfl | (congr 2; omega) | (simp; omega))).below B2) (flat_one_cell enCell_one _) (by unfold maxLen; omega) (by omega) (by omega) ?_; intro A4 c4 w4 o4 g4 at4 b4
                   have B4 := B2.trans b4
                   clear g4 at4 b4))
              go_ret
              obtain ⟨o5, e5⟩ := add_end o4 (T := addE T acc 0) (by rw [AE.out]; exact (flat_append _ _ _).symm)
              have q : ∀ m, m = (addE T acc 0).length → Ending.returned (Value.slice A4 m c4) = Ending.returned (Value.slice A4 (addE T acc 0).length c4) := fun m h => by rw [h]
              exact ⟨A4, c4, q _ (by omega), o5, B4⟩
            · go_wp2_with (first
                | (at_builtin; refine wpList_app _ rfl _ _ _ rfl w.heap.size 47 i0 _ 2 24 Try.underlying25 hi hz0 hz1 hz2 rfl (by omega) _ 0 [] rfl E0 _ k _ _ rfl ((hr.flatTake enCell_len (by omega) hk).alloc _) (flat_one_cell enCell_one _) (by unfold maxLen; omega) (by omega) (by simp) ?_; intro A2 c2 w2 o2 g2 at2 b2
                   rw [Nat.zero_add, List.nil_append] at o2
                   have B2 := (below_box w (Obj.cells #[] 47)).trans b2
                   have z2 := B2.size
                   have h0 := cell_keep B2 H0.out; have h1 := cell_keep B2 H1.out
                   clear g2 at2 b2)
                | (at_builtin; refine wpList_app _ rfl _ _ _ rfl w.heap.size 47 i0 _ 2 24 Try.underlying25 hi hz0 hz1 hz2 rfl (by omega) _ k _ rfl (o2.alloc _) _ 1 1 (enCell ⟨acc, amt⟩) rfl (RS_new (by simp)) (enCell_one _) (by unfold maxLen; omega) (by omega) (by simp; omega) ?_; intro A3 c3 w3 o3 g3 at3 b3
                   have B3 := (B2.alloc B2.size (Obj.cells #[.string acc, .int .i64 (amt)] 47)).trans b3
                   have z3 := B3.size
                   clear g3 at3 b3)
                | (at_builtin; refine wpList_app _ rfl _ _ _ rfl w.heap.size 47 i0 _ 2 24 Try.underlying25 hi hz0 hz1 hz2 rfl (by omega) _ (k + 1) _ rfl o3 _ (n - k) _ _ rfl ((hr.flatDrop (k := k) enCell_len (by omega) (by omega) (fun _ g1 o1 e1 => by simp at e1; obtain ⟨rfl, rfl⟩ := e1; first | rfl | (congr 2; omega) | (simp; omega))).below B3) (flat_one_cell enCell_one _) (by unfold maxLen; omega) (by omega) (by omega) ?_; intro A4 c4 w4 o4 g4 at4 b4
                   have B4 := B3.trans b4
                   clear g4 at4 b4))
              go_ret
              obtain ⟨o5, e5⟩ := add_end o4 (T := addE T acc amt) (by rw [AE.out, if_neg hz, flat_append, flat_append, flat_one])
              have q : ∀ m, m = (addE T acc amt).length → Ending.returned (Value.slice A4 m c4) = Ending.returned (Value.slice A4 (addE T acc amt).length c4) := fun m h => by rw [h]
              exact ⟨A4, c4, q _ (by omega), o5, B4⟩
        · go_wp2
          go_round
          case rel =>
            refine ⟨k + 1, by omega, by go_num, fun j y hj hy => ?_⟩
            rcases Nat.lt_succ_iff_lt_or_eq.1 hj with h | rfl
            · exact hle.out j y h hy
            · rw [HX.out] at hy; injection hy with hy; rw [← hy]; exact hless
          case measure => simp [intOf]; omega
      · obtain rfl : n = k := by omega
        have AE := Lib.hid (addE_end (T := T) (acc := acc) (amt := amt) (fun j x hx => hle.out j x (by rw [← hl.out]; exact (List.getElem?_eq_some_iff.1 hx).1) hx))
        have TK := Lib.hid (show T.take n = T by rw [List.take_of_length_le (by rw [hl.out]; exact Nat.le_refl _)])
        by_cases hz : amt = 0
        all_goals
          by_cases hck : c = n
          all_goals skip
        · have AE1 := AE.out
          rw [if_pos hz, List.append_nil] at AE1
          clear AE
          have AE := Lib.hid AE1
          clear AE1
          subst hz
          go_wp2_with (first
            | (at_builtin; refine wpList_app _ rfl _ _ _ rfl w.heap.size 47 i0 _ 2 24 Try.underlying25 hi hz0 hz1 hz2 rfl (by omega) _ 0 [] rfl E0 _ n _ _ rfl ((hr).alloc _) (flat_one_cell enCell_one _) (by unfold maxLen; omega) (by omega) (by simp) ?_; intro A2 c2 w2 o2 g2 at2 b2
               rw [Nat.zero_add, List.nil_append] at o2
               have B2 := (below_box w (Obj.cells #[] 47)).trans b2
               have z2 := B2.size
               clear g2 at2 b2)
            | (at_builtin; refine wpList_app _ rfl _ _ _ rfl w.heap.size 47 i0 _ 2 24 Try.underlying25 hi hz0 hz1 hz2 rfl (by omega) _ n _ rfl o2 _ 0 _ _ rfl (((RS.nil _ _ _ : RS w 2 _ 0 (([] : List En).flatMap enCell))).below B2) (by simp) (by unfold maxLen; omega) (by omega) (by omega) ?_; intro A4 c4 w4 o4 g4 at4 b4
               have B4 := B2.trans b4
               clear g4 at4 b4))
          go_ret
          obtain ⟨o5, e5⟩ := add_end o4 (T := addE T acc 0) (by rw [AE.out, List.append_nil])
          have q : ∀ m, m = (addE T acc 0).length → Ending.returned (Value.slice A4 m c4) = Ending.returned (Value.slice A4 (addE T acc 0).length c4) := fun m h => by rw [h]
          exact ⟨A4, c4, q _ (by omega), o5, B4⟩
        · have AE1 := AE.out
          rw [if_pos hz, List.append_nil] at AE1
          clear AE
          have AE := Lib.hid AE1
          clear AE1
          subst hz
          go_wp2_with (first
            | (at_builtin; refine wpList_app _ rfl _ _ _ rfl w.heap.size 47 i0 _ 2 24 Try.underlying25 hi hz0 hz1 hz2 rfl (by omega) _ 0 [] rfl E0 _ n _ _ rfl ((hr).alloc _) (flat_one_cell enCell_one _) (by unfold maxLen; omega) (by omega) (by simp) ?_; intro A2 c2 w2 o2 g2 at2 b2
               rw [Nat.zero_add, List.nil_append] at o2
               have B2 := (below_box w (Obj.cells #[] 47)).trans b2
               have z2 := B2.size
               clear g2 at2 b2)
            | (at_builtin; refine wpList_app _ rfl _ _ _ rfl w.heap.size 47 i0 _ 2 24 Try.underlying25 hi hz0 hz1 hz2 rfl (by omega) _ n _ rfl o2 _ 0 _ _ rfl (((RS.nil _ _ _ : RS w 2 _ 0 (([] : List En).flatMap enCell))).below B2) (by simp) (by unfold maxLen; omega) (by omega) (by omega) ?_; intro A4 c4 w4 o4 g4 at4 b4
               have B4 := B2.trans b4
               clear g4 at4 b4))
          go_ret
          obtain ⟨o5, e5⟩ := add_end o4 (T := addE T acc 0) (by rw [AE.out, List.append_nil])
          have q : ∀ m, m = (addE T acc 0).length → Ending.returned (Value.slice A4 m c4) = Ending.returned (Value.slice A4 (addE T acc 0).length c4) := fun m h => by rw [h]
          exact ⟨A4, c4, q _ (by omega), o5, B4⟩
        · go_wp2_with (first
            | (at_builtin; refine wpList_app _ rfl _ _ _ rfl w.heap.size 47 i0 _ 2 24 Try.underlying25 hi hz0 hz1 hz2 rfl (by omega) _ 0 [] rfl E0 _ n _ _ rfl ((hr).alloc _) (flat_one_cell enCell_one _) (by unfold maxLen; omega) (by omega) (by simp) ?_; intro A2 c2 w2 o2 g2 at2 b2
               rw [Nat.zero_add, List.nil_append] at o2
               have B2 := (below_box w (Obj.cells #[] 47)).trans b2
               have z2 := B2.size
               clear g2 at2 b2)
            | (at_builtin; refine wpList_app _ rfl _ _ _ rfl w.heap.size 47 i0 _ 2 24 Try.underlying25 hi hz0 hz1 hz2 rfl (by omega) _ n _ rfl (o2.alloc _) _ 1 1 (enCell ⟨acc, amt⟩) rfl (RS_new (by simp)) (enCell_one _) (by unfold maxLen; omega) (by omega) (by simp; omega) ?_; intro A3 c3 w3 o3 g3 at3 b3
               have B3 := (B2.alloc B2.size (Obj.cells #[.string acc, .int .i64 (amt)] 47)).trans b3
               have z3 := B3.size
               clear g3 at3 b3)
            | (at_builtin; refine wpList_app _ rfl _ _ _ rfl w.heap.size 47 i0 _ 2 24 Try.underlying25 hi hz0 hz1 hz2 rfl (by omega) _ (n + 1) _ rfl o3 _ 0 _ _ rfl (((RS.nil _ _ _ : RS w 2 _ 0 (([] : List En).flatMap enCell))).below B3) (by simp) (by unfold maxLen; omega) (by omega) (by omega) ?_; intro A4 c4 w4 o4 g4 at4 b4
               have B4 := B3.trans b4
               clear g4 at4 b4))
          go_ret
          obtain ⟨o5, e5⟩ := add_end o4 (T := addE T acc amt) (by rw [AE.out, if_neg hz, flat_append, flat_one, List.append_nil])
          have q : ∀ m, m = (addE T acc amt).length → Ending.returned (Value.slice A4 m c4) = Ending.returned (Value.slice A4 (addE T acc amt).length c4) := fun m h => by rw [h]
          exact ⟨A4, c4, q _ (by omega), o5, B4⟩
        · go_wp2_with (first
            | (at_builtin; refine wpList_app _ rfl _ _ _ rfl w.heap.size 47 i0 _ 2 24 Try.underlying25 hi hz0 hz1 hz2 rfl (by omega) _ 0 [] rfl E0 _ n _ _ rfl ((hr).alloc _) (flat_one_cell enCell_one _) (by unfold maxLen; omega) (by omega) (by simp) ?_; intro A2 c2 w2 o2 g2 at2 b2
               rw [Nat.zero_add, List.nil_append] at o2
               have B2 := (below_box w (Obj.cells #[] 47)).trans b2
               have z2 := B2.size
               clear g2 at2 b2)
            | (at_builtin; refine wpList_app _ rfl _ _ _ rfl w.heap.size 47 i0 _ 2 24 Try.underlying25 hi hz0 hz1 hz2 rfl (by omega) _ n _ rfl (o2.alloc _) _ 1 1 (enCell ⟨acc, amt⟩) rfl (RS_new (by simp)) (enCell_one _) (by unfold maxLen; omega) (by omega) (by simp; omega) ?_; intro A3 c3 w3 o3 g3 at3 b3
               have B3 := (B2.alloc B2.size (Obj.cells #[.string acc, .int .i64 (amt)] 47)).trans b3
               have z3 := B3.size
               clear g3 at3 b3)
            | (at_builtin; refine wpList_app _ rfl _ _ _ rfl w.heap.size 47 i0 _ 2 24 Try.underlying25 hi hz0 hz1 hz2 rfl (by omega) _ (n + 1) _ rfl o3 _ 0 _ _ rfl (((RS.nil _ _ _ : RS w 2 _ 0 (([] : List En).flatMap enCell))).below B3) (by simp) (by unfold maxLen; omega) (by omega) (by omega) ?_; intro A4 c4 w4 o4 g4 at4 b4
               have B4 := B3.trans b4
               clear g4 at4 b4))
          go_ret
          obtain ⟨o5, e5⟩ := add_end o4 (T := addE T acc amt) (by rw [AE.out, if_neg hz, flat_append, flat_one, List.append_nil])
          have q : ∀ m, m = (addE T acc amt).length → Ending.returned (Value.slice A4 m c4) = Ending.returned (Value.slice A4 (addE T acc amt).length c4) := fun m h => by rw [h]
          exact ⟨A4, c4, q _ (by omega), o5, B4⟩
end Go.Proofs.Ytefhgilnfdmnlaa
