/- The walks of the helpers of the laws on layers: their size, their copy, their equality, their marks. -/
import Derived.Test.YtlgodbjbllpipaaLay
namespace Go.Proofs.Ytlgodbjbllpipaa
open Go.ChangeShapes Go.WideShapes Go.ChangeAt Go.RowKit

theorem layInfo : (Try.prog.info? 61).map (fun i => (i.zero, i.size, i.bytes)) = some (some (.agg #[.int .i64 0, .int .i64 0, .int .i64 0]), 3, 24) := by kernel_rfl

theorem szLayerS_any (A : Option Addr) (n c : Nat) (left : Int) (w : World) (h0 : 0 ≤ left) (h1 : left ≤ 1048576) (hn : n ≤ 9223372036854775807) :
    Calls Try.prog 103 #[.slice A n c, .int .i64 left] w fun e w' => e = .returned (.int .i64 (if left - n < 0 then -1 else left - n)) ∧ w = w' := by
  go_enter Try.func103, Try.ntmps103
  go_wp2
  all_goals go_ret
  all_goals exact ⟨rfl, rfl⟩

theorem toLayer_any (q v u : Int) (w : World) :
    Calls Try.prog 121 #[.agg #[.int .i64 q, .int .i64 v, .int .i64 u]] w fun e w' => e = .returned (.agg #[.int .i64 q, .int .i64 v, .int .i64 u]) ∧ Below w.heap.size w w' := by
  go_enter Try.func121, Try.ntmps121
  go_wp2
  go_returns
  exact ⟨rfl, by go_grown⟩

theorem eqLayer_any (q v u q' v' u' : Int) (w : World) :
    Calls Try.prog 123 #[.agg #[.int .i64 q, .int .i64 v, .int .i64 u], .agg #[.int .i64 q', .int .i64 v', .int .i64 u']] w fun e w' => e = .returned (.bool (decide ((⟨q, v, u⟩ : Lay) = ⟨q', v', u'⟩))) ∧ Below w.heap.size w w' := by
  go_enter Try.func123, Try.ntmps123
  go_wp2
  all_goals (go_ret; refine ⟨ret_bool ?_, by go_grown⟩; simp_all)

set_option maxHeartbeats 1000000 in
theorem toLayerS_any (A : Option Addr) (n c : Nat) (l : List Lay) (w : World) (hr : RS w 3 A n (layCells l)) (hn : n ≤ 1048576) :
    Calls Try.prog 106 #[.slice A n c] w fun e w' => ∃ A' c', e = .returned (.slice A' n c') ∧ w'.ownsRow w.heap.size 61 3 (.slice A' n c') n (layCells l) ∧ Below w.heap.size w w' := by
  have hl := Lib.hid hr.lay
  obtain ⟨i0, hi, hz0, hz1, hz2⟩ := info_parts layInfo
  go_enter Try.func106, Try.ntmps106
  go_wp2_with (at_make; refine wpList_make_full _ rfl _ _ _ rfl w.heap.size 61 i0 _ 3 Try.underlying57 hi hz0 hz1 _ _ _ _ n rfl rfl rfl rfl (by rw [hz2]; omega) (by unfold maxLen; omega) (Nat.le_refl _) ?_; intro w1 hown1 hg1)
  have hb1 : Below w.heap.size w w1 := ⟨hg1.os, hg1.tape, hg1.output, hg1.size, fun k hk => hg1.block k hk (by simp)⟩
  clear hg1
  go_loopw [4] (fun i wr => ∃ k : Nat, k ≤ n ∧ i = .int .i64 k ∧ Below w.heap.size w wr ∧ ∃ xs, wr.ownsRow w.heap.size 61 3 (.slice (some ⟨w.heap.size, 0, none⟩) n n) n xs ∧ Hid (xs.take (k * 3) = layCells (l.take k))) (fun i _ => n - (intOf i).toNat)
  case atStart => exact ⟨0, Nat.zero_le _, rfl, hb1, _, hown1, by simp [Hid, layCells]⟩
  case round =>
    obtain ⟨k, hk, rfl, hb, xs, hown, htk⟩ := hrel
    clear hb1 hown1
    by_cases hlt : k < n
    · obtain ⟨g, off, rfl, q, v, u, hx, hq, hv, hu⟩ := (hr.below hb).layAt hlt
      have HX := Lib.hid hx; clear hx
      go_wp2_with (go_at_call 121; refine (toLayer_any _ _ _ _).mono ?_; rintro e w2 ⟨rfl, hb2⟩; have hown2 := own_below hown hb2; obtain ⟨d0, hd0⟩ := own_cells hown2 (j := k * 3) (by omega); obtain ⟨d1, hd1⟩ := own_cells hown2 (j := k * 3 + 1) (by omega); obtain ⟨d2, hd2⟩ := own_cells hown2 (j := k * 3 + 2) (by omega); have hf := fun j => hown2.frozenAt j)
      go_roundw
      case rel =>
        obtain ⟨y0, o0, t0⟩ := own_fill (.int .i64 q) hown2 htk.out rfl (by omega)
        obtain ⟨y1, o1, t1⟩ := own_fill (.int .i64 v) o0 t0 rfl (by omega)
        obtain ⟨y2, o2, t2⟩ := own_fill (.int .i64 u) o1 t1 rfl (by omega)
        refine ⟨k + 1, by omega, by go_num, (((below_app hb hb2 hb.size).setCell (Nat.le_refl _) _).setCell (Nat.le_refl _) _).setCell (Nat.le_refl _) _, y2, o2, ?_⟩
        show y2.take ((k + 1) * 3) = _
        rw [show (k + 1) * 3 = k * 3 + 1 + 1 + 1 by omega, t2, List.take_add_one, HX.out, layCells_append]
        simp [layCells]
      case measure => simp [intOf]; omega
    · go_wp2
      have : k = n := by omega
      subst this
      go_ret
      refine ⟨_, _, rfl, ?_, hb⟩
      rw [take_all htk.out (own_len hown), List.take_of_length_le (by rw [hl.out]; exact Nat.le_refl _)] at hown
      exact hown

set_option maxHeartbeats 1000000 in
theorem eqLayerS_any (A : Option Addr) (n c : Nat) (l : List Lay) (A' : Option Addr) (n' c' : Nat) (l' : List Lay) (w : World) (hr : RS w 3 A n (layCells l)) (hr' : RS w 3 A' n' (layCells l')) (hn : n ≤ 9223372036854775807) (hn' : n' ≤ 9223372036854775807) :
    Calls Try.prog 109 #[.slice A n c, .slice A' n' c'] w fun e w' => e = .returned (.bool (decide (l = l'))) ∧ Below w.heap.size w w' := by
  have hl := Lib.hid hr.lay
  have hl' := Lib.hid hr'.lay
  by_cases hnn : n = n'
  · subst hnn
    go_enter Try.func109, Try.ntmps109
    go_wp2
    go_loopw [5] (fun i wr => ∃ k : Nat, k ≤ n ∧ i = .int .i64 k ∧ Below w.heap.size w wr ∧ Hid (∀ j, j < k → l[j]? = l'[j]?)) (fun i _ => n - (intOf i).toNat)
    case atStart => exact ⟨0, Nat.zero_le _, rfl, Below.refl _ _, fun _ h => absurd h (Nat.not_lt_zero _)⟩
    case round =>
      obtain ⟨k, hk, rfl, hb, hsame⟩ := hrel
      by_cases hlt : k < n
      · obtain ⟨g, off, rfl, q, v, u, hx, hq, hv, hu⟩ := (hr.below hb).layAt hlt
        obtain ⟨g', off', rfl, q', v', u', hx', hq', hv', hu'⟩ := (hr'.below hb).layAt hlt
        have HX := Lib.hid hx; clear hx
        have HX' := Lib.hid hx'; clear hx'
        have i1 : (0 : Int) ≤ k := by omega
        have i2 : (k : Int) < n := by omega
        have c1 := cell_wext hq; have c2 := cell_wext hv; have c3 := cell_wext hu; have c4 := cell_wext hq'; have c5 := cell_wext hv'; have c6 := cell_wext hu'
        go_wp2
        refine wp_region_ext (by kernel_rfl) (by kernel_rfl) ?_
        repeat (go_big_quiet_step ((go_at_call 123; exact ext_call (eqLayer_any _ _ _ _ _ _ _))))
        first | (refine wpQuiet_nil ?_) | (go_big_quiet_want; go_big_quiet_op; go_goals)
        intro _ hw'; obtain ⟨nq, hw''⟩ := hw'; subst hw''
        go_wp2
        · go_ret
          refine ⟨ret_bool ?_, below_app hb (below_wext _ _) hb.size⟩
          rw [eq_comm, decide_eq_false_iff_not]
          rintro rfl
          have := HX.out.symm.trans HX'.out
          simp_all
        · go_roundw
          case rel =>
            refine ⟨k + 1, by omega, by go_num, below_app hb (below_wext _ _) hb.size, fun j hj => ?_⟩
            rcases Nat.lt_succ_iff_lt_or_eq.1 hj with h' | rfl
            · exact hsame.out j h'
            · rw [HX.out, HX'.out]; simp_all
          case measure => simp [intOf]; omega
      · go_wp2
        have : k = n := by omega
        subst this
        go_ret
        exact ⟨ret_bool (by simp; exact ext_upto hl.out hl'.out hsame.out), hb⟩
  · have hne : ((n : Int) != n') = true := by simp; omega
    have hd : l ≠ l' := fun h => hnn (by rw [← hl.out, ← hl'.out, h])
    have HD := Lib.hid hd; clear hd hnn
    go_enter Try.func109, Try.ntmps109
    go_wp2
    go_ret
    exact ⟨ret_bool (by simpa using HD.out), Below.refl _ _⟩

set_option maxHeartbeats 1000000 in
theorem markLayerS_any (base : Nat) (A : Option Addr) (n c : Nat) (xs : List Value) (k0 : Int) (w : World) (ho : w.ownsRow base 61 3 (.slice A n c) n xs) (hn : n ≤ 1048600) (h0 : 0 ≤ k0) (h1 : k0 ≤ 1000000000) :
    Calls Try.prog 91 #[.slice A n c, .int .i64 k0] w fun e w' => e = .returned (.int .i64 (k0 + n * 3)) ∧ w'.ownsRow base 61 3 (.slice A n c) n (marks k0 (n * 3)) ∧ w.grownBy w' (Value.slice A n c).ownBlock := by
  go_enter Try.func91, Try.ntmps91
  go_wp2
  go_loopw [1, 5] (fun kk i wr => ∃ k : Nat, k ≤ n ∧ i = .int .i64 k ∧ kk = .int .i64 (k0 + k * 3) ∧ w.grownBy wr (Value.slice A n c).ownBlock ∧ ∃ xs, wr.ownsRow base 61 3 (.slice A n c) n xs ∧ Hid (xs.take (k * 3) = marks k0 (k * 3))) (fun _ i _ => n - (intOf i).toNat)
  case atStart => exact ⟨0, Nat.zero_le _, rfl, by simp, World.grownBy.refl _ _, xs, ho, by simp [Hid, marks]⟩
  case round =>
    obtain ⟨k, hk, rfl, rfl, hg, xs, hown, htk⟩ := hrel
    by_cases hlt : k < n
    · obtain ⟨g, rfl, hgb, hgs, hc, hf⟩ := own_addr hown (by omega)
      have i1 : (0 : Int) ≤ k := by omega
      have i2 : (k : Int) < n := by omega
      obtain ⟨d0, hd0⟩ := own_cells hown (j := k * 3) (by omega); obtain ⟨d1, hd1⟩ := own_cells hown (j := k * 3 + 1) (by omega); obtain ⟨d2, hd2⟩ := own_cells hown (j := k * 3 + 2) (by omega)
      clear hc
      go_wp2
      go_roundw
      case rel =>
        obtain ⟨y0, o0, t0⟩ := own_fill (.int .i64 (k0 + k * 3)) hown htk.out rfl (by omega)
        obtain ⟨y1, o1, t1⟩ := own_fill (.int .i64 (k0 + k * 3 + 1)) o0 t0 rfl (by omega)
        obtain ⟨y2, o2, t2⟩ := own_fill (.int .i64 (k0 + k * 3 + 1 + 1)) o1 t1 rfl (by omega)
        refine ⟨k + 1, by omega, by go_num, by go_num, ?_, y2, o2, ?_⟩
        · have f0 := (hown.stored (k * 3) (.int .i64 (k0 + k * 3))).2
          have f1 := (o0.stored (k * 3 + 1) (.int .i64 (k0 + k * 3 + 1))).2
          have f2 := (o1.stored (k * 3 + 2) (.int .i64 (k0 + k * 3 + 1 + 1))).2
          exact ((hg.trans f0).trans f1).trans f2
        · show y2.take ((k + 1) * 3) = _
          rw [show (k + 1) * 3 = k * 3 + 1 + 1 + 1 by omega, t2, marks_succ, marks_succ, marks_succ]
          simp only [Int.natCast_add, Int.natCast_mul, Int.cast_ofNat_Int, Int.add_assoc]
          rfl
      case measure => simp [intOf]; omega
    · go_wp2
      have : k = n := by omega
      subst this
      go_ret
      refine ⟨rfl, ?_, hg⟩
      rw [take_all htk.out (own_len hown)] at hown
      exact hown

set_option maxHeartbeats 1000000 in
theorem heldLayerS_any (A : Option Addr) (n c : Nat) (k0 : Int) (w : World) (hr : RS w 3 A n (marks k0 (n * 3))) (hn : n ≤ 1048600) (h0 : 0 ≤ k0) (h1 : k0 ≤ 1000000000) :
    Calls Try.prog 94 #[.slice A n c, .int .i64 k0] w fun e w' => e = .returned (.int .i64 (k0 + n * 3)) ∧ Below w.heap.size w w' := by
  go_enter Try.func94, Try.ntmps94
  go_wp2
  go_loopw [1, 5] (fun kk i wr => ∃ k : Nat, k ≤ n ∧ i = .int .i64 k ∧ kk = .int .i64 (k0 + k * 3) ∧ Below w.heap.size w wr) (fun _ i _ => n - (intOf i).toNat)
  case atStart => exact ⟨0, Nat.zero_le _, rfl, by simp, Below.refl _ _⟩
  case round =>
    obtain ⟨k, hk, rfl, rfl, hb⟩ := hrel
    by_cases hlt : k < n
    · obtain ⟨g, off, rfl, c0⟩ := (hr.below hb).cell (i := 0) hlt (marks_at k0 (by omega))
      obtain ⟨g', off', hA, c1⟩ := (hr.below hb).cell (i := 1) hlt (marks_at k0 (by omega))
      obtain ⟨rfl, rfl⟩ : g = g' ∧ off = off' := by simpa using hA
      obtain ⟨g', off', hA', c2⟩ := (hr.below hb).cell (i := 2) hlt (marks_at k0 (by omega))
      obtain ⟨rfl, rfl⟩ : g = g' ∧ off = off' := by simpa using hA'
      clear hA hA'
      simp only [Nat.add_zero, Int.natCast_add, Int.natCast_mul, Int.cast_ofNat_Int] at c0 c1 c2
      go_wp2
      go_roundw
      case rel => exact ⟨k + 1, by omega, by go_num, by go_num, hb⟩
      case measure => simp [intOf]; omega
    · go_wp2
      have : k = n := by omega
      subst this
      go_ret
      exact ⟨rfl, hb⟩
end Go.Proofs.Ytlgodbjbllpipaa
