/- Books that agree: the plain words, and the walks of BooksAgree. No condition. -/
import Derived.Test.YtlgodbjbllpipaaStockW
namespace Go.Proofs.Ytlgodbjbllpipaa
open Go.ChangeShapes Go.WideShapes Go.ChangeAt Go.RowKit

def agree (ss : List Shf) (k : Int) (ds : List Doc) : Bool := areBk ss k ds && ((balanceOf ds ⟨#[83, 84, 79, 67, 75]⟩ 999 == stockW ss k ds) && (balanceOf ds ⟨#[87, 79, 82, 75]⟩ 999 == k))

set_option maxRecDepth 100000 in
set_option maxHeartbeats 4000000 in
theorem implBooksAgree (sA : Option Addr) (sn sc : Nat) (k : Int) (dA : Option Addr) (dn dc : Nat) (ss : List Shf) (ds : List Doc) (w : World) (hr : ShelvesR w sA sn ss) (hd : DocsR w dA dn ds) (hn : sn ≤ 1048600) (hm : dn ≤ 1048600) (hss : shsSmall ss) (hds : docsSmall ds) :
    Calls Try.prog 22 #[.agg #[.slice sA sn sc, .int .i64 k, .slice dA dn dc]] w fun e w' => e = .returned (.bool (agree ss k ds)) ∧ Below w.heap.size w w' := by
  have hl := Lib.hid hr.len
  have SS := Lib.hid hss; have DS := Lib.hid hds
  clear hss hds
  have b0 := Lib.hid (below_box w (Obj.cells #[.slice sA sn sc, .int .i64 k, .slice dA dn dc] 31))
  have X := Lib.hid (blk_new1 w (Obj.cells #[.slice sA sn sc, .int .i64 k, .slice dA dn dc] 31))
  have hr := hr.below b0.out; have hd := hd.below b0.out
  cases h : areBk ss k ds
  · have R := Lib.hid (show agree ss k ds = false by simp [agree, h])
    have hA : ∀ w, ShelvesR w sA sn ss → DocsR w dA dn ds → Calls Try.prog 16 #[.agg #[.slice sA sn sc, .int .i64 k, .slice dA dn dc]] w fun e w' => e = .returned (.bool false) ∧ Below w.heap.size w w' := fun w hr hd => by have q := implAreBooks _ sn sc k _ dn dc ss ds w hr hd hn hm SS.out DS.out; rw [h] at q; exact q
    clear h
    have x0 := cell_wext (blk_at X.out (j := 0) rfl); have x1 := cell_wext (blk_at X.out (j := 1) rfl); have x2 := cell_wext (blk_at X.out (j := 2) rfl)
    go_enter Try.func22, Try.ntmps22
    go_wp2_with fail
    generalize hwo : w.alloc (Obj.cells #[.slice sA sn sc, .int .i64 k, .slice dA dn dc] 31) = wo at *
    clear hwo
    refine wp_region_ext (by kernel_rfl) (by kernel_rfl) ?_
    repeat (go_big_quiet_step (first | (go_at_call 16; exact ext_call (hA _ (hr.below (below_wext _ _)) (hd.below (below_wext _ _)))) | (go_at_call 18; exact ext_call (implStockWorth _ _ _ k _ _ _ ss ds _ (hr.below (below_wext _ _)) (hd.below (below_wext _ _)) hn hm SS.out DS.out)) | (go_at_call 55; exact ext_call (implBalance _ _ _ ds _ _ _ (hd.below (below_wext _ _)) hm DS.out))))
    refine wpQuiet_nil ?_
    intro _ hw'; obtain ⟨nq, hw''⟩ := hw'; subst hw''
    have b2 := below_wext wo nq
    go_wp2_with fail
    go_ret
    exact ⟨ret_bool R.out.symm, below_app b0.out b2 b0.out.size⟩
  · cases h1 : (balanceOf ds ⟨#[83, 84, 79, 67, 75]⟩ 999 == stockW ss k ds)
    · have R := Lib.hid (show agree ss k ds = false by simp only [agree, h1]; simp)
      have hA : ∀ w, ShelvesR w sA sn ss → DocsR w dA dn ds → Calls Try.prog 16 #[.agg #[.slice sA sn sc, .int .i64 k, .slice dA dn dc]] w fun e w' => e = .returned (.bool true) ∧ Below w.heap.size w w' := fun w hr hd => by have q := implAreBooks _ sn sc k _ dn dc ss ds w hr hd hn hm SS.out DS.out; rw [h] at q; exact q
      clear h
      have x0 := cell_wext (blk_at X.out (j := 0) rfl); have x1 := cell_wext (blk_at X.out (j := 1) rfl); have x2 := cell_wext (blk_at X.out (j := 2) rfl)
      go_enter Try.func22, Try.ntmps22
      go_wp2_with fail
      generalize hwo : w.alloc (Obj.cells #[.slice sA sn sc, .int .i64 k, .slice dA dn dc] 31) = wo at *
      clear hwo
      refine wp_region_ext (by kernel_rfl) (by kernel_rfl) ?_
      repeat (go_big_quiet_step (first | (go_at_call 16; exact ext_call (hA _ (hr.below (below_wext _ _)) (hd.below (below_wext _ _)))) | (go_at_call 18; exact ext_call (implStockWorth _ _ _ k _ _ _ ss ds _ (hr.below (below_wext _ _)) (hd.below (below_wext _ _)) hn hm SS.out DS.out)) | (go_at_call 55; exact ext_call (implBalance _ _ _ ds _ _ _ (hd.below (below_wext _ _)) hm DS.out))))
      refine wpQuiet_nil ?_
      intro _ hw'; obtain ⟨nq, hw''⟩ := hw'; subst hw''
      have b2 := below_wext wo nq
      go_wp2_with fail
      go_ret
      exact ⟨ret_bool R.out.symm, below_app b0.out b2 b0.out.size⟩
    · have R := Lib.hid (show agree ss k ds = (balanceOf ds ⟨#[87, 79, 82, 75]⟩ 999 == k) by simp only [agree, h, h1]; simp)
      have hA : ∀ w, ShelvesR w sA sn ss → DocsR w dA dn ds → Calls Try.prog 16 #[.agg #[.slice sA sn sc, .int .i64 k, .slice dA dn dc]] w fun e w' => e = .returned (.bool true) ∧ Below w.heap.size w w' := fun w hr hd => by have q := implAreBooks _ sn sc k _ dn dc ss ds w hr hd hn hm SS.out DS.out; rw [h] at q; exact q
      clear h
      have x0 := cell_wext (blk_at X.out (j := 0) rfl); have x1 := cell_wext (blk_at X.out (j := 1) rfl); have x2 := cell_wext (blk_at X.out (j := 2) rfl)
      go_enter Try.func22, Try.ntmps22
      go_wp2_with fail
      generalize hwo : w.alloc (Obj.cells #[.slice sA sn sc, .int .i64 k, .slice dA dn dc] 31) = wo at *
      clear hwo
      refine wp_region_ext (by kernel_rfl) (by kernel_rfl) ?_
      repeat (go_big_quiet_step (first | (go_at_call 16; exact ext_call (hA _ (hr.below (below_wext _ _)) (hd.below (below_wext _ _)))) | (go_at_call 18; exact ext_call (implStockWorth _ _ _ k _ _ _ ss ds _ (hr.below (below_wext _ _)) (hd.below (below_wext _ _)) hn hm SS.out DS.out)) | (go_at_call 55; exact ext_call (implBalance _ _ _ ds _ _ _ (hd.below (below_wext _ _)) hm DS.out))))
      refine wpQuiet_nil ?_
      intro _ hw'; obtain ⟨nq, hw''⟩ := hw'; subst hw''
      have b2 := below_wext wo nq
      go_wp2_with fail
      go_ret
      exact ⟨ret_bool R.out.symm, below_app b0.out b2 b0.out.size⟩
set_option maxRecDepth 100000 in
set_option maxHeartbeats 4000000 in
theorem specBooksAgree (sA : Option Addr) (sn sc : Nat) (k : Int) (dA : Option Addr) (dn dc : Nat) (ss : List Shf) (ds : List Doc) (w : World) (hr : ShelvesR w sA sn ss) (hd : DocsR w dA dn ds) (hn : sn ≤ 1048600) (hm : dn ≤ 1048600) (hss : shsSmall ss) (hds : docsSmall ds) :
    Calls Try.prog 21 #[.agg #[.slice sA sn sc, .int .i64 k, .slice dA dn dc]] w fun e w' => e = .returned (.bool (agree ss k ds)) ∧ Below w.heap.size w w' := by
  have hl := Lib.hid hr.len
  have SS := Lib.hid hss; have DS := Lib.hid hds
  clear hss hds
  have b0 := Lib.hid (below_box w (Obj.cells #[.slice sA sn sc, .int .i64 k, .slice dA dn dc] 31))
  have X := Lib.hid (blk_new1 w (Obj.cells #[.slice sA sn sc, .int .i64 k, .slice dA dn dc] 31))
  have hr := hr.below b0.out; have hd := hd.below b0.out
  cases h : areBk ss k ds
  · have R := Lib.hid (show agree ss k ds = false by simp [agree, h])
    have hA : ∀ w, ShelvesR w sA sn ss → DocsR w dA dn ds → Calls Try.prog 15 #[.agg #[.slice sA sn sc, .int .i64 k, .slice dA dn dc]] w fun e w' => e = .returned (.bool false) ∧ Below w.heap.size w w' := fun w hr hd => by have q := specAreBooks _ sn sc k _ dn dc ss ds w hr hd hn hm SS.out DS.out; rw [h] at q; exact q
    clear h
    have x0 := cell_wext (blk_at X.out (j := 0) rfl); have x1 := cell_wext (blk_at X.out (j := 1) rfl); have x2 := cell_wext (blk_at X.out (j := 2) rfl)
    go_enter Try.func21, Try.ntmps21
    go_wp2_with fail
    generalize hwo : w.alloc (Obj.cells #[.slice sA sn sc, .int .i64 k, .slice dA dn dc] 31) = wo at *
    clear hwo
    refine wp_region_ext (by kernel_rfl) (by kernel_rfl) ?_
    repeat (go_big_quiet_step (first | (go_at_call 15; exact ext_call (hA _ (hr.below (below_wext _ _)) (hd.below (below_wext _ _)))) | (go_at_call 17; exact ext_call (specStockWorth _ _ _ k _ _ _ ss ds _ (hr.below (below_wext _ _)) (hd.below (below_wext _ _)) hn hm SS.out DS.out)) | (go_at_call 32; exact ext_call (specBalance _ _ _ ds _ _ _ (hd.below (below_wext _ _)) hm DS.out))))
    refine wpQuiet_nil ?_
    intro _ hw'; obtain ⟨nq, hw''⟩ := hw'; subst hw''
    have b2 := below_wext wo nq
    go_wp2_with fail
    go_ret
    exact ⟨ret_bool R.out.symm, below_app b0.out b2 b0.out.size⟩
  · cases h1 : (balanceOf ds ⟨#[83, 84, 79, 67, 75]⟩ 999 == stockW ss k ds)
    · have R := Lib.hid (show agree ss k ds = false by simp only [agree, h1]; simp)
      have hA : ∀ w, ShelvesR w sA sn ss → DocsR w dA dn ds → Calls Try.prog 15 #[.agg #[.slice sA sn sc, .int .i64 k, .slice dA dn dc]] w fun e w' => e = .returned (.bool true) ∧ Below w.heap.size w w' := fun w hr hd => by have q := specAreBooks _ sn sc k _ dn dc ss ds w hr hd hn hm SS.out DS.out; rw [h] at q; exact q
      clear h
      have x0 := cell_wext (blk_at X.out (j := 0) rfl); have x1 := cell_wext (blk_at X.out (j := 1) rfl); have x2 := cell_wext (blk_at X.out (j := 2) rfl)
      go_enter Try.func21, Try.ntmps21
      go_wp2_with fail
      generalize hwo : w.alloc (Obj.cells #[.slice sA sn sc, .int .i64 k, .slice dA dn dc] 31) = wo at *
      clear hwo
      refine wp_region_ext (by kernel_rfl) (by kernel_rfl) ?_
      repeat (go_big_quiet_step (first | (go_at_call 15; exact ext_call (hA _ (hr.below (below_wext _ _)) (hd.below (below_wext _ _)))) | (go_at_call 17; exact ext_call (specStockWorth _ _ _ k _ _ _ ss ds _ (hr.below (below_wext _ _)) (hd.below (below_wext _ _)) hn hm SS.out DS.out)) | (go_at_call 32; exact ext_call (specBalance _ _ _ ds _ _ _ (hd.below (below_wext _ _)) hm DS.out))))
      refine wpQuiet_nil ?_
      intro _ hw'; obtain ⟨nq, hw''⟩ := hw'; subst hw''
      have b2 := below_wext wo nq
      go_wp2_with fail
      go_ret
      exact ⟨ret_bool R.out.symm, below_app b0.out b2 b0.out.size⟩
    · have R := Lib.hid (show agree ss k ds = (balanceOf ds ⟨#[87, 79, 82, 75]⟩ 999 == k) by simp only [agree, h, h1]; simp)
      have hA : ∀ w, ShelvesR w sA sn ss → DocsR w dA dn ds → Calls Try.prog 15 #[.agg #[.slice sA sn sc, .int .i64 k, .slice dA dn dc]] w fun e w' => e = .returned (.bool true) ∧ Below w.heap.size w w' := fun w hr hd => by have q := specAreBooks _ sn sc k _ dn dc ss ds w hr hd hn hm SS.out DS.out; rw [h] at q; exact q
      clear h
      have x0 := cell_wext (blk_at X.out (j := 0) rfl); have x1 := cell_wext (blk_at X.out (j := 1) rfl); have x2 := cell_wext (blk_at X.out (j := 2) rfl)
      go_enter Try.func21, Try.ntmps21
      go_wp2_with fail
      generalize hwo : w.alloc (Obj.cells #[.slice sA sn sc, .int .i64 k, .slice dA dn dc] 31) = wo at *
      clear hwo
      refine wp_region_ext (by kernel_rfl) (by kernel_rfl) ?_
      repeat (go_big_quiet_step (first | (go_at_call 15; exact ext_call (hA _ (hr.below (below_wext _ _)) (hd.below (below_wext _ _)))) | (go_at_call 17; exact ext_call (specStockWorth _ _ _ k _ _ _ ss ds _ (hr.below (below_wext _ _)) (hd.below (below_wext _ _)) hn hm SS.out DS.out)) | (go_at_call 32; exact ext_call (specBalance _ _ _ ds _ _ _ (hd.below (below_wext _ _)) hm DS.out))))
      refine wpQuiet_nil ?_
      intro _ hw'; obtain ⟨nq, hw''⟩ := hw'; subst hw''
      have b2 := below_wext wo nq
      go_wp2_with fail
      go_ret
      exact ⟨ret_bool R.out.symm, below_app b0.out b2 b0.out.size⟩
end Go.Proofs.Ytlgodbjbllpipaa
