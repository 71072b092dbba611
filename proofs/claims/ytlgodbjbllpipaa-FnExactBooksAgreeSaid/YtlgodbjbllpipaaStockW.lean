/- What the shelves are worth: the plain words, and the walks of StockWorth. No condition. -/
import Derived.Test.YtlgodbjbllpipaaAreBk
import Derived.Test.YtlgodbjbllpipaaLayD
import Derived.Test.YtlgodbjbllpipaaDocC
namespace Go.Proofs.Ytlgodbjbllpipaa
open Go.ChangeShapes Go.WideShapes Go.ChangeAt Go.RowKit

theorem areBk_true {ss : List Shf} {k : Int} {ds : List Doc} (h : areBk ss k ds = true) : (∀ (j : Nat) (x : Shf), ss[j]? = some x → shGood ss j x = true) ∧ ss.length ≤ 12 ∧ (0 ≤ k ∧ k ≤ 1000000000) ∧ areDocs ds = true := by
  simp only [areBk, Bool.and_eq_true, decide_eq_true_eq] at h
  exact ⟨fun j x hx => allAt_true h.1 hx, h.2.1, inB_true.1 h.2.2.1, h.2.2.2⟩
def shW (s : Shf) : Int := worthOf s.lays
theorem worthOf_bd24 (l : List Lay) : 0 ≤ worthOf l ∧ worthOf l ≤ 24000000000 := by
  unfold worthOf; split
  · rename_i h
    have := sumTo_bd24 (worth_bd h) (by omega) (areLayers_len h) l.length (Nat.le_refl _)
    unfold sumL; omega
  · omega
def stockW (ss : List Shf) (k : Int) (ds : List Doc) : Int := if areBk ss k ds then sumF shW ss ss.length else 0
theorem stock_bd {ss : List Shf} (h : ss.length ≤ 12) (j : Nat) (hj : j ≤ ss.length) : 0 ≤ sumF shW ss j ∧ sumF shW ss j ≤ 288000000000 := by
  have b := sumF_bd (f := shW) (l := ss) (M := 24000000000) (fun s _ => by have := worthOf_bd24 s.lays; unfold shW; omega) j hj
  have := sumF_nonneg (f := shW) (l := ss) (fun s _ => (worthOf_bd24 s.lays).1) j
  omega
theorem stockW_bd (ss : List Shf) (k : Int) (ds : List Doc) : 0 ≤ stockW ss k ds ∧ stockW ss k ds ≤ 288000000000 := by
  unfold stockW; split
  · rename_i h; exact stock_bd (areBk_true h).2.1 _ (Nat.le_refl _)
  · omega

set_option maxRecDepth 100000 in
set_option maxHeartbeats 4000000 in
theorem implStockWorth (sA : Option Addr) (sn sc : Nat) (k : Int) (dA : Option Addr) (dn dc : Nat) (ss : List Shf) (ds : List Doc) (w : World) (hr : ShelvesR w sA sn ss) (hd : DocsR w dA dn ds) (hn : sn ≤ 1048600) (hm : dn ≤ 1048600) (hss : shsSmall ss) (hds : docsSmall ds) :
    Calls Try.prog 18 #[.agg #[.slice sA sn sc, .int .i64 k, .slice dA dn dc]] w fun e w' => e = .returned (.int .i64 (stockW ss k ds)) ∧ Below w.heap.size w w' := by
  have hl := Lib.hid hr.len
  have SS := Lib.hid hss; have DS := Lib.hid hds
  clear hss hds
  have b0 := Lib.hid (below_box w (Obj.cells #[.slice sA sn sc, .int .i64 k, .slice dA dn dc] 31))
  have X := Lib.hid (blk_new1 w (Obj.cells #[.slice sA sn sc, .int .i64 k, .slice dA dn dc] 31))
  have hr := hr.below b0.out; have hd := hd.below b0.out
  cases h : areBk ss k ds
  · have H := Lib.hid h; clear h
    go_enter Try.func18, Try.ntmps18
    go_wp2_with fail
    generalize hwo : w.alloc (Obj.cells #[.slice sA sn sc, .int .i64 k, .slice dA dn dc] 31) = wo at *
    clear hwo
    refine (implAreBooks _ _ _ k _ _ _ ss ds _ hr hd hn hm SS.out DS.out).mono ?_; rw [H.out]; rintro e w1 ⟨rfl, hb1⟩
    go_wp2_with fail
    go_ret
    exact ⟨ret_int (by simp [stockW, H.out]), below_app b0.out hb1 b0.out.size⟩
  · have SB := Lib.hid (fun j (hj : j ≤ sn) => stock_bd (areBk_true h).2.1 j (by rw [hl.out]; exact hj))
    have H := Lib.hid h; clear h
    go_enter Try.func18, Try.ntmps18
    go_wp2_with fail
    generalize hwo : w.alloc (Obj.cells #[.slice sA sn sc, .int .i64 k, .slice dA dn dc] 31) = wo at *
    clear hwo
    refine (implAreBooks _ _ _ k _ _ _ ss ds _ hr hd hn hm SS.out DS.out).mono ?_; rw [H.out]; rintro e w1 ⟨rfl, hb1⟩
    have x0 := blk_at (blk_keep hb1 X.out) (j := 0) rfl
    go_wp2_with fail
    go_loopw [3, 12] (fun t i wr => ∃ j : Nat, j ≤ sn ∧ i = .int .i64 j ∧ t = .int .i64 (sumF shW ss j) ∧ Below wo.heap.size wo wr) (fun _ i _ => sn - (intOf i).toNat)
    case atStart => exact ⟨0, Nat.zero_le _, rfl, by rw [sumF_zero], hb1⟩
    case round =>
      obtain ⟨j, hj, rfl, rfl, hb⟩ := hrel
      have hz := hb.size
      by_cases hlt : j < sn
      · obtain ⟨g, off, rfl, ⟨item, ids, lays⟩, iA, iN, iC, lA, lN, lC, hx, c0, c1, c2, hi, hlr⟩ := (hr.below hb).shAt hlt
        have HS := Lib.hid (show sumF shW ss (j + 1) = sumF shW ss j + worthOf lays by rw [sumF_succ shW hx]; rfl)
        obtain ⟨s1, s2, s3⟩ := SS.out _ (List.mem_of_getElem? hx)
        simp only at c0 c1 c2 hi hlr s1 s2 s3
        have sl := hlr.lay
        have n2 : lN ≤ 1000000000 := by rw [← sl]; omega
        clear hx s1 s2 s3 sl hi
        have sb := SB.out j (by omega)
        have wb := worthOf_bd24 lays
        have i1 : (0 : Int) ≤ j := by omega
        have i2 : (j : Int) < sn := by omega
        go_wp2_with fail
        refine (implWorthOf _ _ _ lays _ (hlr.alloc _) n2).mono ?_; rintro e w2 ⟨rfl, hb2⟩
        have b2 := below_app hb (below_then (below_box _ _) hb2) hb.size
        clear hb2
        go_wp2_with fail
        go_roundw
        case rel => exact ⟨j + 1, by omega, by go_num, by rw [HS.out], b2⟩
        case measure => simp [intOf]; omega
      · obtain rfl : sn = j := by omega
        go_wp2_with fail
        go_ret
        exact ⟨ret_int (by rw [stockW, if_pos H.out, hl.out]), below_app b0.out hb b0.out.size⟩
set_option maxRecDepth 100000 in
set_option maxHeartbeats 4000000 in
theorem specStockWorth (sA : Option Addr) (sn sc : Nat) (k : Int) (dA : Option Addr) (dn dc : Nat) (ss : List Shf) (ds : List Doc) (w : World) (hr : ShelvesR w sA sn ss) (hd : DocsR w dA dn ds) (hn : sn ≤ 1048600) (hm : dn ≤ 1048600) (hss : shsSmall ss) (hds : docsSmall ds) :
    Calls Try.prog 17 #[.agg #[.slice sA sn sc, .int .i64 k, .slice dA dn dc]] w fun e w' => e = .returned (.int .i64 (stockW ss k ds)) ∧ Below w.heap.size w w' := by
  have hl := Lib.hid hr.len
  have SS := Lib.hid hss; have DS := Lib.hid hds
  clear hss hds
  have b0 := Lib.hid (below_box w (Obj.cells #[.slice sA sn sc, .int .i64 k, .slice dA dn dc] 31))
  have X := Lib.hid (blk_new1 w (Obj.cells #[.slice sA sn sc, .int .i64 k, .slice dA dn dc] 31))
  have hr := hr.below b0.out; have hd := hd.below b0.out
  cases h : areBk ss k ds
  · have H := Lib.hid h; clear h
    by_cases h0 : 0 < sn
    ·
      have x0 := blk_at X.out (j := 0) rfl; have x1 := blk_at X.out (j := 1) rfl; have x2 := blk_at X.out (j := 2) rfl
      go_enter Try.func17, Try.ntmps17
      go_wp2_with fail
      generalize hwo : w.alloc (Obj.cells #[.slice sA sn sc, .int .i64 k, .slice dA dn dc] 31) = wo at *
      clear hwo
      refine wp_loop_once ?_
      have i2 : (0 : Int) < sn := by omega
      go_wp2_with (go_at_call 15; refine (specAreBooks _ _ _ k _ _ _ ss ds _ hr hd hn hm SS.out DS.out).mono ?_; rw [H.out]; rintro e w1 ⟨rfl, hb1⟩)
      go_ret
      exact ⟨ret_int (by simp [stockW, H.out]), below_app b0.out hb1 b0.out.size⟩
    · have i2 : ¬ (0 : Int) < sn := by omega
      have x0 := blk_at X.out (j := 0) rfl; have x1 := blk_at X.out (j := 1) rfl; have x2 := blk_at X.out (j := 2) rfl
      go_enter Try.func17, Try.ntmps17
      go_wp2_with fail
      generalize hwo : w.alloc (Obj.cells #[.slice sA sn sc, .int .i64 k, .slice dA dn dc] 31) = wo at *
      clear hwo
      refine wp_loop_once ?_
      go_wp2_with fail
      go_ret
      exact ⟨ret_int (by simp [stockW, H.out]), below_app b0.out (Below.refl _ _) b0.out.size⟩
  · have SB := Lib.hid (fun j (hj : j ≤ sn) => stock_bd (areBk_true h).2.1 j (by rw [hl.out]; exact hj))
    have H := Lib.hid h; clear h
    go_enter Try.func17, Try.ntmps17
    go_wp2_with fail
    generalize hwo : w.alloc (Obj.cells #[.slice sA sn sc, .int .i64 k, .slice dA dn dc] 31) = wo at *
    clear hwo
    go_loopw [3, 4] (fun t i wr => ∃ j : Nat, j ≤ sn ∧ i = .int .i64 j ∧ t = .int .i64 (sumF shW ss j) ∧ Below wo.heap.size wo wr) (fun _ i _ => sn - (intOf i).toNat)
    case atStart => exact ⟨0, Nat.zero_le _, rfl, by rw [sumF_zero], Below.refl _ _⟩
    case round =>
      obtain ⟨j, hj, rfl, rfl, hb⟩ := hrel
      have hz := hb.size
      by_cases hlt : j < sn
      · obtain ⟨g, off, rfl, ⟨item, ids, lays⟩, iA, iN, iC, lA, lN, lC, hx, c0, c1, c2, hi, hlr⟩ := (hr.below hb).shAt hlt
        have HS := Lib.hid (show sumF shW ss (j + 1) = sumF shW ss j + worthOf lays by rw [sumF_succ shW hx]; rfl)
        obtain ⟨s1, s2, s3⟩ := SS.out _ (List.mem_of_getElem? hx)
        simp only at c0 c1 c2 hi hlr s1 s2 s3
        have sl := hlr.lay
        have n2 : lN ≤ 1000000000 := by rw [← sl]; omega
        clear hx s1 s2 s3 sl hi
        have sb := SB.out j (by omega)
        have wb := worthOf_bd24 lays
        have i1 : (0 : Int) ≤ j := by omega
        have i2 : (j : Int) < sn := by omega
        have x0 := blk_at (blk_keep hb X.out) (j := 0) rfl; have x1 := blk_at (blk_keep hb X.out) (j := 1) rfl; have x2 := blk_at (blk_keep hb X.out) (j := 2) rfl
        go_wp2_with (first
          | (go_at_call 15; refine (specAreBooks _ _ _ k _ _ _ ss ds _ (hr.below hb) (hd.below hb) hn hm SS.out DS.out).mono ?_; rw [H.out]; rintro e w1 ⟨rfl, hb1⟩; have y0 := cell_keep hb1 x0; have y2 := cell_keep hb1 c2; have hlr := hlr.below hb1)
          | (go_at_call 49; refine (specWorthOf _ _ _ lays _ hlr n2).mono ?_; rintro e w2 ⟨rfl, hb2⟩))
        have b2 := below_app (below_app hb hb1 hb.size) hb2 (Nat.le_trans hb.size hb1.size)
        clear hb1 hb2
        go_roundw
        case rel => exact ⟨j + 1, by omega, by go_num, by rw [HS.out], b2⟩
        case measure => simp [intOf]; omega
      · obtain rfl : sn = j := by omega
        have x0 := blk_at (blk_keep hb X.out) (j := 0) rfl
        go_wp2_with fail
        go_ret
        exact ⟨ret_int (by rw [stockW, if_pos H.out, hl.out]), below_app b0.out hb b0.out.size⟩
end Go.Proofs.Ytlgodbjbllpipaa
