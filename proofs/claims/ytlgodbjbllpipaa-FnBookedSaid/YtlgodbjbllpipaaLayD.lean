/- The walks of WorthOf and GoneCost. -/
import Derived.Test.YtlgodbjbllpipaaLayC
namespace Go.Proofs.Ytlgodbjbllpipaa
open Go.ChangeShapes Go.WideShapes Go.ChangeAt Go.RowKit

set_option maxHeartbeats 1000000 in
theorem implWorthOf (A : Option Addr) (n c : Nat) (l : List Lay) (w : World) (hr : RS w 3 A n (layCells l)) (hn : n ≤ 1000000000) :
    Calls Try.prog 50 #[.slice A n c] w fun e w' => e = .returned (.int .i64 (worthOf l)) ∧ Below w.heap.size w w' := by
  have hl := Lib.hid hr.lay
  cases h : areLayers l
  · go_enter Try.func50, Try.ntmps50
    go_wp2_with (go_at_call 46; refine (implAreLayers _ _ _ l _ hr hn).mono ?_; rw [h]; rintro e w1 ⟨rfl, hb1⟩)
    go_ret
    exact ⟨ret_int (by simp [worthOf, h]), hb1⟩
  · have SB := Lib.hid (fun k hk => sumTo_bd24 (worth_bd h) (by omega) (areLayers_len h) k hk)
    have AT := Lib.hid (fun k x (hx : l[k]? = some x) => areLayers_at h hx)
    have n24 : n ≤ 24 := by rw [← hl.out]; exact areLayers_len h
    have H := Lib.hid h
    go_enter Try.func50, Try.ntmps50
    go_wp2_with (go_at_call 46; refine (implAreLayers _ _ _ l _ hr hn).mono ?_; rw [h]; rintro e w1 ⟨rfl, hb1⟩)
    clear h
    go_loopw [3, 11] (fun t i wr => ∃ k : Nat, k ≤ n ∧ i = .int .i64 k ∧ t = .int .i64 (sumTo (fun x => x.v - lcost x x.u) l k) ∧ Below w.heap.size w wr) (fun _ i _ => n - (intOf i).toNat)
    case atStart => exact ⟨0, Nat.zero_le _, rfl, by rw [sumTo_zero], hb1⟩
    case round =>
      obtain ⟨k, hk, rfl, rfl, hb⟩ := hrel
      clear hb1
      by_cases hlt : k < n
      · obtain ⟨g, off, rfl, q, v, u, hx, hq, hv, hu⟩ := (hr.below hb).layAt hlt
        have HS := Lib.hid (sumTo_succ (fun x => x.v - lcost x x.u) hx)
        have ha := AT.out k _ hx
        have sb := SB.out k (by rw [hl.out]; omega)
        clear hx
        simp only at ha
        obtain ⟨m1, m2⟩ := lcost_bd (x := ⟨q, v, u⟩) (n := u) (by simp; omega) (by simp; omega) (by omega) (by simp; omega)
        simp only at m2
        have s1 : IntKind.i64.wrap (v - lcost ⟨q, v, u⟩ u) = v - lcost ⟨q, v, u⟩ u := IntWalk.i64_in _ (by omega)
        have s2 : IntKind.i64.wrap (sumTo (fun x => x.v - lcost x x.u) l k + (v - lcost ⟨q, v, u⟩ u)) = sumTo (fun x => x.v - lcost x x.u) l k + (v - lcost ⟨q, v, u⟩ u) := IntWalk.i64_in _ (by omega)
        have s3 : IntKind.i64.wrap (sumTo (fun x => x.v - lcost x x.u) l k + lcost ⟨q, v, u⟩ u) = sumTo (fun x => x.v - lcost x x.u) l k + lcost ⟨q, v, u⟩ u := IntWalk.i64_in _ (by omega)
        have X0 := Lib.hid (blk_new1 wr (Obj.cells #[.int .i64 q, .int .i64 v, .int .i64 u] 61))
        have c0 := cell_wext (blk_at X0.out (j := 0) rfl); have c1 := cell_wext (blk_at X0.out (j := 1) rfl); have c2 := cell_wext (blk_at X0.out (j := 2) rfl)
        go_wp2
        refine wp_region_ext (by kernel_rfl) (by kernel_rfl) ?_
        repeat (go_big_quiet_step ((go_at_call 77; exact ext_call (implCost _ _ _ _ _ (by omega) (by omega) (by omega)))))
        refine wpQuiet_nil ?_
        intro _ hw'; obtain ⟨nq, hw''⟩ := hw'; subst hw''
        have b2 := below_app (hb.alloc hb.size (Obj.cells #[.int .i64 q, .int .i64 v, .int .i64 u] 61)) (below_wext _ nq) (by simp; have := hb.size; omega)
        clear s1 s2 s3 c0 c1 c2
        go_wp2
        go_roundw
        case rel => exact ⟨k + 1, by omega, by go_num, by rw [HS.out], b2⟩
        case measure => simp [intOf]; omega
      · go_wp2
        have : k = n := by omega
        subst this
        go_ret
        exact ⟨ret_int (by rw [worthOf, if_pos H.out, sumL, hl.out]), hb⟩
set_option maxHeartbeats 1000000 in
theorem specWorthOf (A : Option Addr) (n c : Nat) (l : List Lay) (w : World) (hr : RS w 3 A n (layCells l)) (hn : n ≤ 1000000000) :
    Calls Try.prog 49 #[.slice A n c] w fun e w' => e = .returned (.int .i64 (worthOf l)) ∧ Below w.heap.size w w' := by
  have hl := Lib.hid hr.lay
  cases h : areLayers l
  · have H := Lib.hid h
    by_cases h0 : 0 < n
    · go_enter Try.func49, Try.ntmps49
      go_wp2
      refine wp_loop_once ?_
      go_wp2_with (go_at_call 42; refine (specAreLayers _ _ _ l _ hr hn).mono ?_; rw [H.out]; rintro e w1 ⟨rfl, hb1⟩)
      go_ret
      exact ⟨ret_int (by simp [worthOf, H.out]), hb1⟩
    · go_enter Try.func49, Try.ntmps49
      go_wp2
      refine wp_loop_once ?_
      go_wp2_with (go_at_call 42; refine (specAreLayers _ _ _ l _ hr hn).mono ?_; rw [H.out]; rintro e w1 ⟨rfl, hb1⟩)
      go_ret
      exact ⟨ret_int (by simp [worthOf, H.out]), Below.refl _ _⟩
  · have SB := Lib.hid (fun k hk => sumTo_bd24 (worth_bd h) (by omega) (areLayers_len h) k hk)
    have AT := Lib.hid (fun k x (hx : l[k]? = some x) => areLayers_at h hx)
    have n24 : n ≤ 24 := by rw [← hl.out]; exact areLayers_len h
    have H := Lib.hid h
    clear h
    go_enter Try.func49, Try.ntmps49
    go_wp2
    go_loopw [3, 4] (fun t i wr => ∃ k : Nat, k ≤ n ∧ i = .int .i64 k ∧ t = .int .i64 (sumTo (fun x => x.v - lcost x x.u) l k) ∧ Below w.heap.size w wr) (fun _ i _ => n - (intOf i).toNat)
    case atStart => exact ⟨0, Nat.zero_le _, rfl, by rw [sumTo_zero], Below.refl _ _⟩
    case round =>
      obtain ⟨k, hk, rfl, rfl, hb⟩ := hrel
      by_cases hlt : k < n
      · obtain ⟨g, off, rfl, q, v, u, hx, hq, hv, hu⟩ := (hr.below hb).layAt hlt
        have HS := Lib.hid (sumTo_succ (fun x => x.v - lcost x x.u) hx)
        have ha := AT.out k _ hx
        have sb := SB.out k (by rw [hl.out]; omega)
        clear hx
        simp only at ha
        obtain ⟨m1, m2⟩ := lcost_bd (x := ⟨q, v, u⟩) (n := u) (by simp; omega) (by simp; omega) (by omega) (by simp; omega)
        simp only at m2
        have i1 : (0 : Int) ≤ k := by omega
        have i2 : (k : Int) < n := by omega
        have s1 : IntKind.i64.wrap (sumTo (fun x => x.v - lcost x x.u) l k + v) = sumTo (fun x => x.v - lcost x x.u) l k + v := IntWalk.i64_in _ (by omega)
        have s2 : IntKind.i64.wrap (sumTo (fun x => x.v - lcost x x.u) l k + v - lcost ⟨q, v, u⟩ u) = sumTo (fun x => x.v - lcost x x.u) l k + v - lcost ⟨q, v, u⟩ u := IntWalk.i64_in _ (by omega)
        have s3 : IntKind.i64.wrap (sumTo (fun x => x.v - lcost x x.u) l k + lcost ⟨q, v, u⟩ u) = sumTo (fun x => x.v - lcost x x.u) l k + lcost ⟨q, v, u⟩ u := IntWalk.i64_in _ (by omega)
        go_wp2_with (go_at_call 42; refine (specAreLayers _ _ _ l _ (hr.below hb) hn).mono ?_; rw [H.out]; rintro e w1 ⟨rfl, hb1⟩; have c0 := cell_wext (cell_keep hb1 hq); have c1 := cell_wext (cell_keep hb1 hv); have c2 := cell_wext (cell_keep hb1 hu); have b1 := below_app hb hb1 hb.size; clear hq hv hu)
        refine wp_region_ext (by kernel_rfl) (by kernel_rfl) ?_
        repeat (go_big_quiet_step ((go_at_call 76; exact ext_call (specCost _ _ _ _ _ (by omega) (by omega) (by omega)))))
        refine wpQuiet_nil ?_
        intro _ hw'; obtain ⟨nq, hw''⟩ := hw'; subst hw''
        have b2 := below_app b1 (below_wext _ nq) b1.size
        clear s1 s2 s3
        go_wp2
        go_roundw
        case rel => exact ⟨k + 1, by omega, by go_num, by rw [HS.out]; go_num, b2⟩
        case measure => simp [intOf]; omega
      · go_wp2
        have : k = n := by omega
        subst this
        go_ret
        exact ⟨ret_int (by rw [worthOf, if_pos H.out, sumL, hl.out]), hb⟩
end Go.Proofs.Ytlgodbjbllpipaa
