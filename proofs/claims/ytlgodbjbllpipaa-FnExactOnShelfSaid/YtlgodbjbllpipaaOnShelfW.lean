/- What is on a shelf: the plain words, and the walks of OnShelf. No condition. -/
import Derived.Test.YtlgodbjbllpipaaShelfOf
import Derived.Test.YtlgodbjbllpipaaLayC
namespace Go.Proofs.Ytlgodbjbllpipaa
open Go.ChangeShapes Go.WideShapes Go.ChangeAt Go.RowKit

def onShelf (ss : List Shf) (k : Int) (ds : List Doc) (s : ByteArray) : Int := if areBk ss k ds then (match ss[(shelfAt ss s).toNat]? with | some x => if shelfAt ss s < 0 then 0 else leftOf x.lays | none => 0) else 0
theorem onShelf_no {ss : List Shf} {k : Int} {ds : List Doc} {s : ByteArray} (h : areBk ss k ds = false ∨ shelfAt ss s < 0) : onShelf ss k ds s = 0 := by
  unfold onShelf; split
  · rename_i hb
    rcases h with h | h
    · rw [h] at hb; cases hb
    · split
      · rw [if_pos h]
      · rfl
  · rfl
theorem onShelf_at {ss : List Shf} {k : Int} {ds : List Doc} {s : ByteArray} {j : Nat} {x : Shf} (h : areBk ss k ds = true) (hj : shelfAt ss s = j) (hx : ss[j]? = some x) : onShelf ss k ds s = leftOf x.lays := by
  have : (shelfAt ss s).toNat = j := by omega
  unfold onShelf; rw [if_pos h, this, hx]
  simp only
  rw [if_neg (by omega)]

set_option maxRecDepth 100000 in
set_option maxHeartbeats 4000000 in
theorem implOnShelf (sA : Option Addr) (sn sc : Nat) (k : Int) (dA : Option Addr) (dn dc : Nat) (ss : List Shf) (ds : List Doc) (s : ByteArray) (w : World) (hr : ShelvesR w sA sn ss) (hd : DocsR w dA dn ds) (hn : sn ≤ 1048600) (hm : dn ≤ 1048600) (hss : shsSmall ss) (hds : docsSmall ds) :
    Calls Try.prog 20 #[.agg #[.slice sA sn sc, .int .i64 k, .slice dA dn dc], .string s] w fun e w' => e = .returned (.int .i64 (onShelf ss k ds s)) ∧ Below w.heap.size w w' := by
  have hl := Lib.hid hr.len
  have SS := Lib.hid hss; have DS := Lib.hid hds
  clear hss hds
  have b0 := Lib.hid (below_box w (Obj.cells #[.slice sA sn sc, .int .i64 k, .slice dA dn dc] 31))
  have X := Lib.hid (blk_new1 w (Obj.cells #[.slice sA sn sc, .int .i64 k, .slice dA dn dc] 31))
  have hr := hr.below b0.out; have hd := hd.below b0.out
  rcases shelfAt_cases ss s with ⟨hk, _⟩ | ⟨j, ⟨item, ids, lays⟩, hk, hx, _, _⟩
  · have R := Lib.hid (onShelf_no (k := k) (ds := ds) (s := s) (.inr (show shelfAt ss s < 0 by omega)))
    have HK := Lib.hid hk; clear hk
    cases h : areBk ss k ds
    all_goals
      have H := Lib.hid h; clear h
      have x0 := blk_at X.out (j := 0) rfl; have x1 := blk_at X.out (j := 1) rfl; have x2 := blk_at X.out (j := 2) rfl
      go_enter Try.func20, Try.ntmps20
      go_wp2_with fail
      generalize hwo : w.alloc (Obj.cells #[.slice sA sn sc, .int .i64 k, .slice dA dn dc] 31) = wo at *
      clear hwo
      go_wp2_with (first | (go_at_call 53; refine (implShelfOf _ _ _ k _ _ _ ss s _ hr hn).mono ?_; rw [HK.out]; rintro e w1 ⟨rfl, hb1⟩; have y0 := blk_at (blk_keep hb1 X.out) (j := 0) rfl; have y1 := blk_at (blk_keep hb1 X.out) (j := 1) rfl; have y2 := blk_at (blk_keep hb1 X.out) (j := 2) rfl; have hr1 := hr.below hb1; have hd1 := hd.below hb1) | (go_at_call 16; refine (implAreBooks _ _ _ k _ _ _ ss ds _ hr1 hd1 hn hm SS.out DS.out).mono ?_; rw [H.out]; rintro e w2 ⟨rfl, hb2⟩; have z0 := blk_at (blk_keep hb2 (blk_keep hb1 X.out)) (j := 0) rfl; have hr2 := hr1.below hb2))
      go_ret
      exact ⟨ret_int (by rw [R.out]), below_app b0.out (by first | exact below_app hb1 hb2 hb1.size | exact hb1) b0.out.size⟩
  · have hj : j < sn := by rw [← hl.out]; exact (List.getElem?_eq_some_iff.1 hx).1
    have HK := Lib.hid hk
    have HX := Lib.hid hx
    obtain ⟨s1, s2, s3⟩ := SS.out _ (List.mem_of_getElem? hx)
    simp only at s1 s2 s3
    cases h : areBk ss k ds
    · have R := Lib.hid (onShelf_no (s := s) (.inl h))
      have H := Lib.hid h; clear h hk hx
      have x0 := blk_at X.out (j := 0) rfl; have x1 := blk_at X.out (j := 1) rfl; have x2 := blk_at X.out (j := 2) rfl
      go_enter Try.func20, Try.ntmps20
      go_wp2_with fail
      generalize hwo : w.alloc (Obj.cells #[.slice sA sn sc, .int .i64 k, .slice dA dn dc] 31) = wo at *
      clear hwo
      go_wp2_with (first | (go_at_call 53; refine (implShelfOf _ _ _ k _ _ _ ss s _ hr hn).mono ?_; rw [HK.out]; rintro e w1 ⟨rfl, hb1⟩; have y0 := blk_at (blk_keep hb1 X.out) (j := 0) rfl; have y1 := blk_at (blk_keep hb1 X.out) (j := 1) rfl; have y2 := blk_at (blk_keep hb1 X.out) (j := 2) rfl; have hr1 := hr.below hb1; have hd1 := hd.below hb1) | (go_at_call 16; refine (implAreBooks _ _ _ k _ _ _ ss ds _ hr1 hd1 hn hm SS.out DS.out).mono ?_; rw [H.out]; rintro e w2 ⟨rfl, hb2⟩; have z0 := blk_at (blk_keep hb2 (blk_keep hb1 X.out)) (j := 0) rfl; have hr2 := hr1.below hb2))
      go_ret
      exact ⟨ret_int (by rw [R.out]), below_app b0.out (below_app hb1 hb2 hb1.size) b0.out.size⟩
    · have R := Lib.hid (onShelf_at h hk hx)
      have H := Lib.hid h; clear h hk hx
      simp only at R
      have x0 := blk_at X.out (j := 0) rfl; have x1 := blk_at X.out (j := 1) rfl; have x2 := blk_at X.out (j := 2) rfl
      go_enter Try.func20, Try.ntmps20
      go_wp2_with fail
      generalize hwo : w.alloc (Obj.cells #[.slice sA sn sc, .int .i64 k, .slice dA dn dc] 31) = wo at *
      clear hwo
      have i1 : (0 : Int) ≤ j := by omega
      have i2 : (j : Int) < sn := by omega
      obtain ⟨g, off, rfl, ⟨item', ids', lays'⟩, iA, iN, iC, lA, lN, lC, hx', c0, c1, c2, hi, hlr⟩ := hr.shAt hj
      rw [HX.out] at hx'
      have hx' := Option.some.inj hx'
      injection hx' with e1 e2 e3
      subst e1 e2 e3
      simp only at c0 c1 c2 hi hlr
      have sl := hlr.lay
      have n2 : lN ≤ 1000000000 := by rw [← sl]; omega
      clear sl hi
      go_wp2_with (first | (go_at_call 53; refine (implShelfOf _ _ _ k _ _ _ ss s _ hr hn).mono ?_; rw [HK.out]; rintro e w1 ⟨rfl, hb1⟩; have y0 := blk_at (blk_keep hb1 X.out) (j := 0) rfl; have y1 := blk_at (blk_keep hb1 X.out) (j := 1) rfl; have y2 := blk_at (blk_keep hb1 X.out) (j := 2) rfl; have hr1 := hr.below hb1; have hd1 := hd.below hb1) | (go_at_call 16; refine (implAreBooks _ _ _ k _ _ _ ss ds _ hr1 hd1 hn hm SS.out DS.out).mono ?_; rw [H.out]; rintro e w2 ⟨rfl, hb2⟩; have z0 := blk_at (blk_keep hb2 (blk_keep hb1 X.out)) (j := 0) rfl; have hr2 := hr1.below hb2; have q2 := cell_keep hb2 (cell_keep hb1 c2); have hl2 := (hlr.below hb1).below hb2) | (go_at_call 54; refine (implLeftOf _ _ _ lays _ hl2 n2).mono ?_; rintro e w3 ⟨rfl, hb3⟩))
      go_ret
      exact ⟨ret_int (by rw [R.out]), below_app b0.out (below_app (below_app hb1 hb2 hb1.size) hb3 (Nat.le_trans hb1.size hb2.size)) b0.out.size⟩
set_option maxRecDepth 100000 in
set_option maxHeartbeats 4000000 in
theorem specOnShelf (sA : Option Addr) (sn sc : Nat) (k : Int) (dA : Option Addr) (dn dc : Nat) (ss : List Shf) (ds : List Doc) (s : ByteArray) (w : World) (hr : ShelvesR w sA sn ss) (hd : DocsR w dA dn ds) (hn : sn ≤ 1048600) (hm : dn ≤ 1048600) (hss : shsSmall ss) (hds : docsSmall ds) :
    Calls Try.prog 19 #[.agg #[.slice sA sn sc, .int .i64 k, .slice dA dn dc], .string s] w fun e w' => e = .returned (.int .i64 (onShelf ss k ds s)) ∧ Below w.heap.size w w' := by
  have hl := Lib.hid hr.len
  have SS := Lib.hid hss; have DS := Lib.hid hds
  clear hss hds
  have b0 := Lib.hid (below_box w (Obj.cells #[.slice sA sn sc, .int .i64 k, .slice dA dn dc] 31))
  have X := Lib.hid (blk_new1 w (Obj.cells #[.slice sA sn sc, .int .i64 k, .slice dA dn dc] 31))
  have hr := hr.below b0.out; have hd := hd.below b0.out
  rcases shelfAt_cases ss s with ⟨hk, _⟩ | ⟨j, ⟨item, ids, lays⟩, hk, hx, _, _⟩
  · have R := Lib.hid (onShelf_no (k := k) (ds := ds) (s := s) (.inr (show shelfAt ss s < 0 by omega)))
    have HK := Lib.hid hk; clear hk
    cases h : areBk ss k ds
    all_goals
      have H := Lib.hid h; clear h
      have x0 := blk_at X.out (j := 0) rfl; have x1 := blk_at X.out (j := 1) rfl; have x2 := blk_at X.out (j := 2) rfl
      go_enter Try.func19, Try.ntmps19
      go_wp2_with fail
      generalize hwo : w.alloc (Obj.cells #[.slice sA sn sc, .int .i64 k, .slice dA dn dc] 31) = wo at *
      clear hwo
      go_wp2_with (first | (go_at_call 51; refine (specShelfOf _ _ _ k _ _ _ ss s _ hr hn).mono ?_; rw [HK.out]; rintro e w1 ⟨rfl, hb1⟩; have y0 := blk_at (blk_keep hb1 X.out) (j := 0) rfl; have y1 := blk_at (blk_keep hb1 X.out) (j := 1) rfl; have y2 := blk_at (blk_keep hb1 X.out) (j := 2) rfl; have hr1 := hr.below hb1; have hd1 := hd.below hb1) | (go_at_call 15; refine (specAreBooks _ _ _ k _ _ _ ss ds _ hr1 hd1 hn hm SS.out DS.out).mono ?_; rw [H.out]; rintro e w2 ⟨rfl, hb2⟩; have z0 := blk_at (blk_keep hb2 (blk_keep hb1 X.out)) (j := 0) rfl; have hr2 := hr1.below hb2))
      go_ret
      exact ⟨ret_int (by rw [R.out]), below_app b0.out (by first | exact below_app hb1 hb2 hb1.size | exact hb1) b0.out.size⟩
  · have hj : j < sn := by rw [← hl.out]; exact (List.getElem?_eq_some_iff.1 hx).1
    have HK := Lib.hid hk
    have HX := Lib.hid hx
    obtain ⟨s1, s2, s3⟩ := SS.out _ (List.mem_of_getElem? hx)
    simp only at s1 s2 s3
    cases h : areBk ss k ds
    · have R := Lib.hid (onShelf_no (s := s) (.inl h))
      have H := Lib.hid h; clear h hk hx
      have x0 := blk_at X.out (j := 0) rfl; have x1 := blk_at X.out (j := 1) rfl; have x2 := blk_at X.out (j := 2) rfl
      go_enter Try.func19, Try.ntmps19
      go_wp2_with fail
      generalize hwo : w.alloc (Obj.cells #[.slice sA sn sc, .int .i64 k, .slice dA dn dc] 31) = wo at *
      clear hwo
      go_wp2_with (first | (go_at_call 51; refine (specShelfOf _ _ _ k _ _ _ ss s _ hr hn).mono ?_; rw [HK.out]; rintro e w1 ⟨rfl, hb1⟩; have y0 := blk_at (blk_keep hb1 X.out) (j := 0) rfl; have y1 := blk_at (blk_keep hb1 X.out) (j := 1) rfl; have y2 := blk_at (blk_keep hb1 X.out) (j := 2) rfl; have hr1 := hr.below hb1; have hd1 := hd.below hb1) | (go_at_call 15; refine (specAreBooks _ _ _ k _ _ _ ss ds _ hr1 hd1 hn hm SS.out DS.out).mono ?_; rw [H.out]; rintro e w2 ⟨rfl, hb2⟩; have z0 := blk_at (blk_keep hb2 (blk_keep hb1 X.out)) (j := 0) rfl; have hr2 := hr1.below hb2))
      go_ret
      exact ⟨ret_int (by rw [R.out]), below_app b0.out (below_app hb1 hb2 hb1.size) b0.out.size⟩
    · have R := Lib.hid (onShelf_at h hk hx)
      have H := Lib.hid h; clear h hk hx
      simp only at R
      have x0 := blk_at X.out (j := 0) rfl; have x1 := blk_at X.out (j := 1) rfl; have x2 := blk_at X.out (j := 2) rfl
      go_enter Try.func19, Try.ntmps19
      go_wp2_with fail
      generalize hwo : w.alloc (Obj.cells #[.slice sA sn sc, .int .i64 k, .slice dA dn dc] 31) = wo at *
      clear hwo
      have i1 : (0 : Int) ≤ j := by omega
      have i2 : (j : Int) < sn := by omega
      obtain ⟨g, off, rfl, ⟨item', ids', lays'⟩, iA, iN, iC, lA, lN, lC, hx', c0, c1, c2, hi, hlr⟩ := hr.shAt hj
      rw [HX.out] at hx'
      have hx' := Option.some.inj hx'
      injection hx' with e1 e2 e3
      subst e1 e2 e3
      simp only at c0 c1 c2 hi hlr
      have sl := hlr.lay
      have n2 : lN ≤ 1000000000 := by rw [← sl]; omega
      clear sl hi
      go_wp2_with (first | (go_at_call 51; refine (specShelfOf _ _ _ k _ _ _ ss s _ hr hn).mono ?_; rw [HK.out]; rintro e w1 ⟨rfl, hb1⟩; have y0 := blk_at (blk_keep hb1 X.out) (j := 0) rfl; have y1 := blk_at (blk_keep hb1 X.out) (j := 1) rfl; have y2 := blk_at (blk_keep hb1 X.out) (j := 2) rfl; have hr1 := hr.below hb1; have hd1 := hd.below hb1) | (go_at_call 15; refine (specAreBooks _ _ _ k _ _ _ ss ds _ hr1 hd1 hn hm SS.out DS.out).mono ?_; rw [H.out]; rintro e w2 ⟨rfl, hb2⟩; have z0 := blk_at (blk_keep hb2 (blk_keep hb1 X.out)) (j := 0) rfl; have hr2 := hr1.below hb2; have q2 := cell_keep hb2 (cell_keep hb1 c2); have hl2 := (hlr.below hb1).below hb2) | (go_at_call 52; refine (specLeftOf _ _ _ lays _ hl2 n2).mono ?_; rintro e w3 ⟨rfl, hb3⟩))
      go_ret
      exact ⟨ret_int (by rw [R.out]), below_app b0.out (below_app (below_app hb1 hb2 hb1.size) hb3 (Nat.le_trans hb1.size hb2.size)) b0.out.size⟩
end Go.Proofs.Ytlgodbjbllpipaa
