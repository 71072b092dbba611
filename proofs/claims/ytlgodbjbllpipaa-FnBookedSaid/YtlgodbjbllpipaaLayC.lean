/- The walks of what layers are worth: LeftOf, WorthOf, GoneCost, and what the first pieces of a layer cost. -/
import Derived.Test.YtlgodbjbllpipaaLayA
namespace Go.Proofs.Ytlgodbjbllpipaa
open Go.ChangeShapes Go.WideShapes Go.ChangeAt Go.RowKit

theorem implCost (q v u n : Int) (w : World) (hq : 1 ≤ q ∧ q ≤ 100000) (hv : 0 ≤ v ∧ v ≤ 1000000000) (hn : 0 ≤ n ∧ n ≤ 100000) :
    Calls Try.prog 77 #[.agg #[.int .i64 q, .int .i64 v, .int .i64 u], .int .i64 n] w fun e w' => e = .returned (.int .i64 (lcost ⟨q, v, u⟩ n)) ∧ Below w.heap.size w w' := by
  obtain ⟨m1, m2⟩ := mul_bd' (a := v) (b := n) hv hn
  have m3 : 0 ≤ v * n / q := Int.ediv_nonneg m1 (by omega)
  have m4 : v * n / q ≤ v * n := Int.ediv_le_self _ m1
  go_enter Try.func77, Try.ntmps77
  go_wp2
  go_ret
  exact ⟨rfl, by go_grown⟩
theorem specCost (q v u n : Int) (w : World) (hq : 1 ≤ q ∧ q ≤ 100000) (hv : 0 ≤ v ∧ v ≤ 1000000000) (hn : 0 ≤ n ∧ n ≤ 100000) :
    Calls Try.prog 76 #[.agg #[.int .i64 q, .int .i64 v, .int .i64 u], .int .i64 n] w fun e w' => e = .returned (.int .i64 (lcost ⟨q, v, u⟩ n)) ∧ Below w.heap.size w w' := by
  obtain ⟨m1, m2⟩ := mul_bd' (a := v) (b := n) hv hn
  have m3 : 0 ≤ v * n / q := Int.ediv_nonneg m1 (by omega)
  have m4 : v * n / q ≤ v * n := Int.ediv_le_self _ m1
  go_enter Try.func76, Try.ntmps76
  go_wp2
  go_ret
  exact ⟨rfl, by go_grown⟩

set_option maxHeartbeats 1000000 in
theorem implLeftOf (A : Option Addr) (n c : Nat) (l : List Lay) (w : World) (hr : RS w 3 A n (layCells l)) (hn : n ≤ 1000000000) :
    Calls Try.prog 54 #[.slice A n c] w fun e w' => e = .returned (.int .i64 (leftOf l)) ∧ Below w.heap.size w w' := by
  have hl := Lib.hid hr.lay
  cases h : areLayers l
  · go_enter Try.func54, Try.ntmps54
    go_wp2_with (go_at_call 46; refine (implAreLayers _ _ _ l _ hr hn).mono ?_; rw [h]; rintro e w1 ⟨rfl, hb1⟩)
    go_ret
    exact ⟨ret_int (by simp [leftOf, h]), hb1⟩
  · have SB := Lib.hid (fun k hk => sumTo_bd24 (left_bd h) (by omega) (areLayers_len h) k hk)
    have AT := Lib.hid (fun k x (hx : l[k]? = some x) => areLayers_at h hx)
    have n24 : n ≤ 24 := by rw [← hl.out]; exact areLayers_len h
    have H := Lib.hid h
    go_enter Try.func54, Try.ntmps54
    go_wp2_with (go_at_call 46; refine (implAreLayers _ _ _ l _ hr hn).mono ?_; rw [h]; rintro e w1 ⟨rfl, hb1⟩)
    clear h
    go_loopw [3, 11] (fun t i wr => ∃ k : Nat, k ≤ n ∧ i = .int .i64 k ∧ t = .int .i64 (sumTo (fun x => x.q - x.u) l k) ∧ Below w.heap.size w wr) (fun _ i _ => n - (intOf i).toNat)
    case atStart => exact ⟨0, Nat.zero_le _, rfl, by rw [sumTo_zero], hb1⟩
    case round =>
      obtain ⟨k, hk, rfl, rfl, hb⟩ := hrel
      clear hb1
      by_cases hlt : k < n
      · obtain ⟨g, off, rfl, q, v, u, hx, hq, hv, hu⟩ := (hr.below hb).layAt hlt
        have HS := Lib.hid (sumTo_succ (fun x => x.q - x.u) hx)
        have ha := AT.out k _ hx
        have sb := SB.out k (by rw [hl.out]; omega)
        clear hx
        simp only at ha
        go_wp2
        go_roundw
        case rel => exact ⟨k + 1, by omega, by go_num, by rw [HS.out], hb.alloc hb.size _⟩
        case measure => simp [intOf]; omega
      · go_wp2
        have : k = n := by omega
        subst this
        go_ret
        exact ⟨ret_int (by rw [leftOf, if_pos H.out, sumL, hl.out]), hb⟩

set_option maxHeartbeats 1000000 in
theorem specLeftOf (A : Option Addr) (n c : Nat) (l : List Lay) (w : World) (hr : RS w 3 A n (layCells l)) (hn : n ≤ 1000000000) :
    Calls Try.prog 52 #[.slice A n c] w fun e w' => e = .returned (.int .i64 (leftOf l)) ∧ Below w.heap.size w w' := by
  have hl := Lib.hid hr.lay
  have start : areLayers l = false → n = 0 ∨ 0 < n := fun _ => by omega
  cases h : areLayers l
  · have H := Lib.hid h
    by_cases h0 : 0 < n
    · go_enter Try.func52, Try.ntmps52
      go_wp2
      refine wp_loop_once ?_
      go_wp2_with (go_at_call 42; refine (specAreLayers _ _ _ l _ hr hn).mono ?_; rw [H.out]; rintro e w1 ⟨rfl, hb1⟩)
      go_ret
      exact ⟨ret_int (by simp [leftOf, H.out]), hb1⟩
    · go_enter Try.func52, Try.ntmps52
      go_wp2
      refine wp_loop_once ?_
      go_wp2_with (go_at_call 42; refine (specAreLayers _ _ _ l _ hr hn).mono ?_; rw [H.out]; rintro e w1 ⟨rfl, hb1⟩)
      go_ret
      exact ⟨ret_int (by simp [leftOf, H.out]), Below.refl _ _⟩
  · have SB := Lib.hid (fun k hk => sumTo_bd24 (left_bd h) (by omega) (areLayers_len h) k hk)
    have AT := Lib.hid (fun k x (hx : l[k]? = some x) => areLayers_at h hx)
    have n24 : n ≤ 24 := by rw [← hl.out]; exact areLayers_len h
    have H := Lib.hid h
    clear h start
    go_enter Try.func52, Try.ntmps52
    go_wp2
    go_loopw [3, 4] (fun t i wr => ∃ k : Nat, k ≤ n ∧ i = .int .i64 k ∧ t = .int .i64 (sumTo (fun x => x.q - x.u) l k) ∧ Below w.heap.size w wr) (fun _ i _ => n - (intOf i).toNat)
    case atStart => exact ⟨0, Nat.zero_le _, rfl, by rw [sumTo_zero], Below.refl _ _⟩
    case round =>
      obtain ⟨k, hk, rfl, rfl, hb⟩ := hrel
      by_cases hlt : k < n
      · obtain ⟨g, off, rfl, q, v, u, hx, hq, hv, hu⟩ := (hr.below hb).layAt hlt
        have HS := Lib.hid (sumTo_succ (fun x => x.q - x.u) hx)
        have ha := AT.out k _ hx
        have sb := SB.out k (by rw [hl.out]; omega)
        clear hx
        simp only at ha
        have i1 : (0 : Int) ≤ k := by omega
        have i2 : (k : Int) < n := by omega
        have s1 : IntKind.i64.wrap (sumTo (fun x => x.q - x.u) l k + q) = sumTo (fun x => x.q - x.u) l k + q := IntWalk.i64_in _ (by omega)
        have s2 : IntKind.i64.wrap (sumTo (fun x => x.q - x.u) l k + q - u) = sumTo (fun x => x.q - x.u) l k + q - u := IntWalk.i64_in _ (by omega)
        go_wp2_with (go_at_call 42; refine (specAreLayers _ _ _ l _ (hr.below hb) hn).mono ?_; rw [H.out]; rintro e w1 ⟨rfl, hb1⟩; have hq1 := cell_keep hb1 hq; have hu1 := cell_keep hb1 hu; have b1 := below_app hb hb1 hb.size; clear hq hv hu)
        go_quiet (fail)
        clear s1 s2
        go_wp2
        go_roundw
        case rel => exact ⟨k + 1, by omega, by go_num, by rw [HS.out]; go_num, below_drewN b1 _⟩
        case measure => simp [intOf]; omega
      · go_wp2
        have : k = n := by omega
        subst this
        go_ret
        exact ⟨ret_int (by rw [leftOf, if_pos H.out, sumL, hl.out]), hb⟩
end Go.Proofs.Ytlgodbjbllpipaa
