/- FnExactSameBooks returns true for all arguments, and leaves them as they were. No condition. -/
import Derived.Test.YtlgodbjbllpipaaSame
import Derived.Test.YtlgodbjbllpipaaShelfB
import Derived.Deep.RegionHeld3
namespace Go.Proofs.Ytlgodbjbllpipaa.fnExactSameBooks
open Go.ChangeShapes Go.WideShapes Go.ChangeAt Go.RowKit

set_option maxRecDepth 100000 in
set_option maxHeartbeats 4000000 in
theorem walk (w : World) (sAa : Option Addr) (sna sca : Nat) (ka : Int) (dAa : Option Addr) (dna dca : Nat) (ssa : List Shf) (dsa : List Doc) (hra : ShelvesR w sAa sna ssa) (hda : DocsR w dAa dna dsa) (hna : sna ≤ 9223372036854775807) (hma : dna ≤ 9223372036854775807) (_hka : i64 ka) (hoka : ∀ y ∈ ssa, shOk y) (hoda : ∀ y ∈ dsa, docOk y) (sAb : Option Addr) (snb scb : Nat) (kb : Int) (dAb : Option Addr) (dnb dcb : Nat) (ssb : List Shf) (dsb : List Doc) (hrb : ShelvesR w sAb snb ssb) (hdb : DocsR w dAb dnb dsb) (hnb : snb ≤ 9223372036854775807) (hmb : dnb ≤ 9223372036854775807) (_hkb : i64 kb) (hokb : ∀ y ∈ ssb, shOk y) (hodb : ∀ y ∈ dsb, docOk y) :
    Calls Try.prog 3 #[.agg #[.slice sAa sna sca, .int .i64 ka, .slice dAa dna dca], .agg #[.slice sAb snb scb, .int .i64 kb, .slice dAb dnb dcb]] w fun e w' => e = .returned (.bool true) ∧ Below w.heap.size w w' := by
  by_cases za : (1048576 : Int) < bkSz sna dna ssa dsa
  ·
    have HZ := Lib.hid (szRes_no za); clear za
    go_enter Try.func3, Try.ntmps3
    have B0 := Lib.hid (below_then (below_box w _) (below_box _ _) : Below w.heap.size w ((w.alloc (Obj.cells #[.slice sAa sna sca, .int .i64 ka, .slice dAa dna dca] 25)).alloc (Obj.cells #[.slice sAb snb scb, .int .i64 kb, .slice dAb dnb dcb] 25)))
    have Xa := Lib.hid (blk_alloc (blk_new1 w (Obj.cells #[.slice sAa sna sca, .int .i64 ka, .slice dAa dna dca] 25)) (Obj.cells #[.slice sAb snb scb, .int .i64 kb, .slice dAb dnb dcb] 25))
    have Xb := Lib.hid (blk_new2 w (Obj.cells #[.slice sAa sna sca, .int .i64 ka, .slice dAa dna dca] 25) (Obj.cells #[.slice sAb snb scb, .int .i64 kb, .slice dAb dnb dcb] 25))
    have hra := hra.below B0.out; have hda := hda.below B0.out
    have hrb := hrb.below B0.out; have hdb := hdb.below B0.out
    go_wp2_with fail
    generalize hwo : ((w.alloc (Obj.cells #[.slice sAa sna sca, .int .i64 ka, .slice dAa dna dca] 25)).alloc (Obj.cells #[.slice sAb snb scb, .int .i64 kb, .slice dAb dnb dcb] 25)) = wo at *
    clear hwo
    refine (szBooks_any _ _ _ ka _ _ _ ssa dsa _ _ hra hda hna hma hoka hoda (by omega) (by omega)).mono ?_; rw [HZ.out]; rintro e w1 ⟨rfl, g1⟩
    have b1 := g1
    go_wp2_with fail
    go_ret
    exact ⟨rfl, below_then B0.out b1⟩
  have Za := Int.not_lt.1 za
  have nna := bkSz_nonneg sna dna ssa dsa
  clear za
  by_cases zb : (1048576 - bkSz sna dna ssa dsa : Int) < bkSz snb dnb ssb dsb
  ·
    have HZ := Lib.hid (szRes_no zb); clear zb
    go_enter Try.func3, Try.ntmps3
    have B0 := Lib.hid (below_then (below_box w _) (below_box _ _) : Below w.heap.size w ((w.alloc (Obj.cells #[.slice sAa sna sca, .int .i64 ka, .slice dAa dna dca] 25)).alloc (Obj.cells #[.slice sAb snb scb, .int .i64 kb, .slice dAb dnb dcb] 25)))
    have Xa := Lib.hid (blk_alloc (blk_new1 w (Obj.cells #[.slice sAa sna sca, .int .i64 ka, .slice dAa dna dca] 25)) (Obj.cells #[.slice sAb snb scb, .int .i64 kb, .slice dAb dnb dcb] 25))
    have Xb := Lib.hid (blk_new2 w (Obj.cells #[.slice sAa sna sca, .int .i64 ka, .slice dAa dna dca] 25) (Obj.cells #[.slice sAb snb scb, .int .i64 kb, .slice dAb dnb dcb] 25))
    have hra := hra.below B0.out; have hda := hda.below B0.out
    have hrb := hrb.below B0.out; have hdb := hdb.below B0.out
    go_wp2_with fail
    generalize hwo : ((w.alloc (Obj.cells #[.slice sAa sna sca, .int .i64 ka, .slice dAa dna dca] 25)).alloc (Obj.cells #[.slice sAb snb scb, .int .i64 kb, .slice dAb dnb dcb] 25)) = wo at *
    clear hwo
    refine (szBooks_any _ _ _ ka _ _ _ ssa dsa _ _ hra hda hna hma hoka hoda (by omega) (by omega)).mono ?_; rw [szRes_yes Za]; rintro e w1 ⟨rfl, g1⟩
    have b1 := g1
    have cb0 := blk_at (blk_keep b1 Xb.out) (j := 0) rfl
    have cb1 := blk_at (blk_keep b1 Xb.out) (j := 1) rfl
    have cb2 := blk_at (blk_keep b1 Xb.out) (j := 2) rfl
    go_wp2_with fail
    refine (szBooks_any _ _ _ kb _ _ _ ssb dsb _ _ (hrb.below b1) (hdb.below b1) hnb hmb hokb hodb (by omega) (by omega)).mono ?_; rw [HZ.out]; rintro e w2 ⟨rfl, g2⟩
    have b2 := below_then b1 g2
    clear cb0 cb1 cb2
    go_wp2_with fail
    go_ret
    exact ⟨rfl, below_then B0.out b2⟩
  have Zb := Int.not_lt.1 zb
  have nnb := bkSz_nonneg snb dnb ssb dsb
  clear zb
  have Qa := Lib.hid (bk_small hra.len hda.len (show bkSz sna dna ssa dsa ≤ 1048576 by have := Za; have := Zb; omega))
  have qa := Qa.out.1; have ta := Qa.out.2.1
  have Qb := Lib.hid (bk_small hrb.len hdb.len (show bkSz snb dnb ssb dsb ≤ 1048576 by have := Za; have := Zb; omega))
  have qb := Qb.out.1; have tb := Qb.out.2.1
  have Ra := Lib.hid (szRes_yes Za)
  have La := Lib.hid (show (0 : Int) ≤ 1048576 ∧ 1048576 ≤ (1048576 : Int) by have := Za; have := Zb; omega)
  
  have Rb := Lib.hid (szRes_yes Zb)
  have Lb := Lib.hid (show (0 : Int) ≤ 1048576 - bkSz sna dna ssa dsa ∧ 1048576 - bkSz sna dna ssa dsa ≤ (1048576 : Int) by have := Za; have := Zb; omega)
  
  go_enter Try.func3, Try.ntmps3
  have B0 := Lib.hid (below_then (below_box w _) (below_box _ _) : Below w.heap.size w ((w.alloc (Obj.cells #[.slice sAa sna sca, .int .i64 ka, .slice dAa dna dca] 25)).alloc (Obj.cells #[.slice sAb snb scb, .int .i64 kb, .slice dAb dnb dcb] 25)))
  have Xa := Lib.hid (blk_alloc (blk_new1 w (Obj.cells #[.slice sAa sna sca, .int .i64 ka, .slice dAa dna dca] 25)) (Obj.cells #[.slice sAb snb scb, .int .i64 kb, .slice dAb dnb dcb] 25))
  have Xb := Lib.hid (blk_new2 w (Obj.cells #[.slice sAa sna sca, .int .i64 ka, .slice dAa dna dca] 25) (Obj.cells #[.slice sAb snb scb, .int .i64 kb, .slice dAb dnb dcb] 25))
  have hra := hra.below B0.out; have hda := hda.below B0.out
  have hrb := hrb.below B0.out; have hdb := hdb.below B0.out
  go_wp2_with fail
  generalize hwo : ((w.alloc (Obj.cells #[.slice sAa sna sca, .int .i64 ka, .slice dAa dna dca] 25)).alloc (Obj.cells #[.slice sAb snb scb, .int .i64 kb, .slice dAb dnb dcb] 25)) = wo at *
  clear hwo
  refine (szBooks_any _ _ _ ka _ _ _ ssa dsa _ _ hra hda hna hma hoka hoda La.out.1 La.out.2).mono ?_; rw [Ra.out]; rintro e w1 ⟨rfl, g1⟩
  have b1 := g1
  have cb0 := blk_at (blk_keep b1 Xb.out) (j := 0) rfl
  have cb1 := blk_at (blk_keep b1 Xb.out) (j := 1) rfl
  have cb2 := blk_at (blk_keep b1 Xb.out) (j := 2) rfl
  go_wp2_with fail
  refine (szBooks_any _ _ _ kb _ _ _ ssb dsb _ _ (hrb.below b1) (hdb.below b1) hnb hmb hokb hodb Lb.out.1 Lb.out.2).mono ?_; rw [Rb.out]; rintro e w2 ⟨rfl, g2⟩
  have b2 := below_then b1 g2
  clear cb0 cb1 cb2
  have ca0 := blk_at (blk_keep b2 Xa.out) (j := 0) rfl
  have ca1 := blk_at (blk_keep b2 Xa.out) (j := 1) rfl
  have ca2 := blk_at (blk_keep b2 Xa.out) (j := 2) rfl
  have cb0 := blk_at (blk_keep b2 Xb.out) (j := 0) rfl
  have cb1 := blk_at (blk_keep b2 Xb.out) (j := 1) rfl
  have cb2 := blk_at (blk_keep b2 Xb.out) (j := 2) rfl
  go_wp2_with fail
  go_region_held3 (fun w' => w'.cell? ⟨w.heap.size, 0, none⟩ = some (.slice sAa sna sca) ∧ w'.cell? ⟨w.heap.size, 1, none⟩ = some (.int .i64 ka) ∧ w'.cell? ⟨w.heap.size, 2, none⟩ = some (.slice dAa dna dca) ∧ w'.cell? ⟨w.heap.size + 1, 0, none⟩ = some (.slice sAb snb scb) ∧ w'.cell? ⟨w.heap.size + 1, 1, none⟩ = some (.int .i64 kb) ∧ w'.cell? ⟨w.heap.size + 1, 2, none⟩ = some (.slice dAb dnb dcb))
    (first
      | go_keep
      | (go_split_ands; exact ⟨cell_keep h1 ‹_›, cell_keep h1 ‹_›, cell_keep h1 ‹_›, cell_keep h1 ‹_›, cell_keep h1 ‹_›, cell_keep h1 ‹_›⟩)
      | (go_split_ands; exact ⟨cell_keep h2 ‹_›, cell_keep h2 ‹_›, cell_keep h2 ‹_›, cell_keep h2 ‹_›, cell_keep h2 ‹_›, cell_keep h2 ‹_›⟩)
      | (go_split_ands; exact ⟨cell_keep h3 ‹_›, cell_keep h3 ‹_›, cell_keep h3 ‹_›, cell_keep h3 ‹_›, cell_keep h3 ‹_›, cell_keep h3 ‹_›⟩))
    (first
      | (go_at_call 12; have hh := h1; refine (toBooks_any _ _ scb kb _ _ dcb ssb dsb _ (hrb.below ((b2.drew).trans (h1.mono b2.size))) (hdb.below ((b2.drew).trans (h1.mono b2.size))) (by omega) (by omega) Qb.out.2.2.1 Qb.out.2.2.2).mono ?_; rintro e v2 ⟨A2, c2, D2, d2, rfl, O2, h2⟩; have O1 := O1.below h2; clear hh)
      | (go_at_call 12; refine (toBooks_any _ _ sca ka _ _ dca ssa dsa _ (hra.below (b2.drew)) (hda.below (b2.drew)) (by omega) (by omega) Qa.out.2.2.1 Qa.out.2.2.2).mono ?_; rintro e v1 ⟨A1, c1, D1, d1, rfl, O1, h1⟩)
      | (go_at_call 11; refine (specSameBooks _ _ _ ka _ _ _ ssa dsa _ _ _ kb _ _ _ ssb dsb _ O1.shelves O1.docs O2.shelves O2.docs (by omega) (by omega) (by omega) (by omega) hoka hokb (fun d hd => Nat.le_trans (Qa.out.2.2.2 d hd) (by omega)) (fun d hd => Nat.le_trans (Qb.out.2.2.2 d hd) (by omega))).mono ?_; rintro e v3 ⟨rfl, h3⟩))
  have bq := below_app ((b2).drew.trans (h1.mono b2.size)) (h2) (by have := b2.size; have := h1.size; simp at *; omega)
  have bw := below_app bq h3 bq.size
  clear h1 h2 h3 bq b2 O1 O2
  have b9 := bw; clear bw
  clear ca0 ca1 ca2 cb0 cb1 cb2
  have ca0 := blk_at (blk_keep b9 Xa.out) (j := 0) rfl
  have ca1 := blk_at (blk_keep b9 Xa.out) (j := 1) rfl
  have ca2 := blk_at (blk_keep b9 Xa.out) (j := 2) rfl
  have cb0 := blk_at (blk_keep b9 Xb.out) (j := 0) rfl
  have cb1 := blk_at (blk_keep b9 Xb.out) (j := 1) rfl
  have cb2 := blk_at (blk_keep b9 Xb.out) (j := 2) rfl
  go_wp2_with fail
  refine (toBooks_any _ _ sca ka _ _ dca ssa dsa _ (hra.below (b9)) (hda.below (b9)) (by omega) (by omega) Qa.out.2.2.1 Qa.out.2.2.2).mono ?_; rintro e w10 ⟨A10, c10, D10, d10, rfl, Ox0, g10⟩
  have b10 := below_then b9 g10
  clear g10 b9
  clear ca0 ca1 ca2 cb0 cb1 cb2
  have hbx := below_box w10 (Obj.cells #[.slice A10 sna c10, .int .i64 ka, .slice D10 dna d10] 31)
  have Xx0 := Lib.hid (blk_new1 w10 (Obj.cells #[.slice A10 sna c10, .int .i64 ka, .slice D10 dna d10] 31))
  have Ox0 := Ox0.below hbx
  have bb0 := below_then b10 hbx
  clear hbx b10
  have z0 : w10.heap.size < (w10.alloc (Obj.cells #[.slice A10 sna c10, .int .i64 ka, .slice D10 dna d10] 31)).heap.size := by simp
  have ca0 := blk_at (blk_keep bb0 Xa.out) (j := 0) rfl
  have ca1 := blk_at (blk_keep bb0 Xa.out) (j := 1) rfl
  have ca2 := blk_at (blk_keep bb0 Xa.out) (j := 2) rfl
  have cb0 := blk_at (blk_keep bb0 Xb.out) (j := 0) rfl
  have cb1 := blk_at (blk_keep bb0 Xb.out) (j := 1) rfl
  have cb2 := blk_at (blk_keep bb0 Xb.out) (j := 2) rfl
  go_wp2_with fail
  refine (toBooks_any _ _ scb kb _ _ dcb ssb dsb _ (hrb.below (bb0)) (hdb.below (bb0)) (by omega) (by omega) Qb.out.2.2.1 Qb.out.2.2.2).mono ?_; rintro e w11 ⟨A11, c11, D11, d11, rfl, Ox1, g11⟩
  have Ox0 := Ox0.below g11
  have Xx0 := Lib.hid (blk_keep g11 Xx0.out)
  have b11 := below_then bb0 g11
  clear g11 bb0
  clear ca0 ca1 ca2 cb0 cb1 cb2
  have hbx := below_box w11 (Obj.cells #[.slice A11 snb c11, .int .i64 kb, .slice D11 dnb d11] 31)
  have Xx1 := Lib.hid (blk_new1 w11 (Obj.cells #[.slice A11 snb c11, .int .i64 kb, .slice D11 dnb d11] 31))
  have Ox1 := Ox1.below hbx
  have Ox0 := Ox0.below hbx
  have Xx0 := Lib.hid (blk_alloc Xx0.out (Obj.cells #[.slice A11 snb c11, .int .i64 kb, .slice D11 dnb d11] 31))
  have bb1 := below_then b11 hbx
  clear hbx b11
  have z1 : w11.heap.size < (w11.alloc (Obj.cells #[.slice A11 snb c11, .int .i64 kb, .slice D11 dnb d11] 31)).heap.size := by simp
  have cx00 := blk_at Xx0.out (j := 0) rfl
  have cx01 := blk_at Xx0.out (j := 1) rfl
  have cx02 := blk_at Xx0.out (j := 2) rfl
  have cx10 := blk_at Xx1.out (j := 0) rfl
  have cx11 := blk_at Xx1.out (j := 1) rfl
  have cx12 := blk_at Xx1.out (j := 2) rfl
  go_wp2_with fail
  refine (implSameBooks _ _ _ ka _ _ _ ssa dsa _ _ _ kb _ _ _ ssb dsb _ Ox0.shelves Ox0.docs Ox1.shelves Ox1.docs (by omega) (by omega) (by omega) (by omega) hoka hokb (fun d hd => Nat.le_trans (Qa.out.2.2.2 d hd) (by omega)) (fun d hd => Nat.le_trans (Qb.out.2.2.2 d hd) (by omega))).mono ?_; rintro e w12 ⟨rfl, g12⟩
  have Ox0 := Ox0.below g12
  have Ox1 := Ox1.below g12
  have Xx0 := Lib.hid (blk_keep g12 Xx0.out)
  have Xx1 := Lib.hid (blk_keep g12 Xx1.out)
  have b12 := below_then bb1 g12
  clear g12 bb1
  clear cx00 cx01 cx02 cx10 cx11 cx12
  have ca0 := blk_at (blk_keep b12 Xa.out) (j := 0) rfl
  have ca1 := blk_at (blk_keep b12 Xa.out) (j := 1) rfl
  have ca2 := blk_at (blk_keep b12 Xa.out) (j := 2) rfl
  have cx00 := blk_at Xx0.out (j := 0) rfl
  have cx01 := blk_at Xx0.out (j := 1) rfl
  have cx02 := blk_at Xx0.out (j := 2) rfl
  go_wp2_with fail
  go_region_held3 (fun w' => w'.cell? ⟨w.heap.size, 0, none⟩ = some (.slice sAa sna sca) ∧ w'.cell? ⟨w.heap.size, 1, none⟩ = some (.int .i64 ka) ∧ w'.cell? ⟨w.heap.size, 2, none⟩ = some (.slice dAa dna dca) ∧ w'.cell? ⟨w10.heap.size, 0, none⟩ = some (.slice A10 sna c10) ∧ w'.cell? ⟨w10.heap.size, 1, none⟩ = some (.int .i64 ka) ∧ w'.cell? ⟨w10.heap.size, 2, none⟩ = some (.slice D10 dna d10))
    (first
      | go_keep
      | (go_split_ands; exact ⟨cell_keep h1 ‹_›, cell_keep h1 ‹_›, cell_keep h1 ‹_›, cell_keep h1 ‹_›, cell_keep h1 ‹_›, cell_keep h1 ‹_›⟩)
      | (go_split_ands; exact ⟨cell_keep h2 ‹_›, cell_keep h2 ‹_›, cell_keep h2 ‹_›, cell_keep h2 ‹_›, cell_keep h2 ‹_›, cell_keep h2 ‹_›⟩))
    (first
      | (go_at_call 12; refine (toBooks_any _ _ sca ka _ _ dca ssa dsa _ (hra.below (b12.drew)) (hda.below (b12.drew)) (by omega) (by omega) Qa.out.2.2.1 Qa.out.2.2.2).mono ?_; rintro e v100 ⟨A100, c100, D100, d100, rfl, O100, h1⟩; have Ox0 := (Ox0.below (Below.refl _ _).drew).below h1)
      | (go_at_call 14; refine (eqBooks_true _ _ _ ka _ _ _ _ _ _ _ _ _ ssa dsa _ Ox0.shelves Ox0.docs O100.shelves O100.docs (by omega) (by omega) (by omega) (by omega) hoka (fun d hd => Nat.le_trans (Qa.out.2.2.2 d hd) (by omega))).mono ?_; rintro e v101 ⟨rfl, h2⟩))
  have bh := ((Below.refl w12.heap.size w12).drew.trans h1).trans (h2.mono h1.size)
  have Ox1 := Ox1.below bh
  have Xx1 := Lib.hid (blk_keep bh Xx1.out)
  have b101 := below_then b12 bh
  clear h1 h2 bh b12 Ox0 O100
  clear ca0 ca1 ca2 cx00 cx01 cx02
  have cb0 := blk_at (blk_keep b101 Xb.out) (j := 0) rfl
  have cb1 := blk_at (blk_keep b101 Xb.out) (j := 1) rfl
  have cb2 := blk_at (blk_keep b101 Xb.out) (j := 2) rfl
  have cx10 := blk_at Xx1.out (j := 0) rfl
  have cx11 := blk_at Xx1.out (j := 1) rfl
  have cx12 := blk_at Xx1.out (j := 2) rfl
  go_wp2_with fail
  go_region_held3 (fun w' => w'.cell? ⟨w.heap.size + 1, 0, none⟩ = some (.slice sAb snb scb) ∧ w'.cell? ⟨w.heap.size + 1, 1, none⟩ = some (.int .i64 kb) ∧ w'.cell? ⟨w.heap.size + 1, 2, none⟩ = some (.slice dAb dnb dcb) ∧ w'.cell? ⟨w11.heap.size, 0, none⟩ = some (.slice A11 snb c11) ∧ w'.cell? ⟨w11.heap.size, 1, none⟩ = some (.int .i64 kb) ∧ w'.cell? ⟨w11.heap.size, 2, none⟩ = some (.slice D11 dnb d11))
    (first
      | go_keep
      | (go_split_ands; exact ⟨cell_keep h1 ‹_›, cell_keep h1 ‹_›, cell_keep h1 ‹_›, cell_keep h1 ‹_›, cell_keep h1 ‹_›, cell_keep h1 ‹_›⟩)
      | (go_split_ands; exact ⟨cell_keep h2 ‹_›, cell_keep h2 ‹_›, cell_keep h2 ‹_›, cell_keep h2 ‹_›, cell_keep h2 ‹_›, cell_keep h2 ‹_›⟩))
    (first
      | (go_at_call 12; refine (toBooks_any _ _ scb kb _ _ dcb ssb dsb _ (hrb.below (b101.drew)) (hdb.below (b101.drew)) (by omega) (by omega) Qb.out.2.2.1 Qb.out.2.2.2).mono ?_; rintro e v102 ⟨A102, c102, D102, d102, rfl, O102, h1⟩; have Ox1 := (Ox1.below (Below.refl _ _).drew).below h1)
      | (go_at_call 14; refine (eqBooks_true _ _ _ kb _ _ _ _ _ _ _ _ _ ssb dsb _ Ox1.shelves Ox1.docs O102.shelves O102.docs (by omega) (by omega) (by omega) (by omega) hokb (fun d hd => Nat.le_trans (Qb.out.2.2.2 d hd) (by omega))).mono ?_; rintro e v103 ⟨rfl, h2⟩))
  have bh := ((Below.refl v101.heap.size v101).drew.trans h1).trans (h2.mono h1.size)
  have b103 := below_then b101 bh
  clear h1 h2 bh b101 Ox1 O102
  clear cb0 cb1 cb2 cx10 cx11 cx12
  go_wp2_with fail
  go_ret
  exact ⟨rfl, below_then B0.out b103⟩

set_option maxRecDepth 100000 in
theorem lifted (os : Os) (started : os.Started) (H : Type) (enc : TypeId × Value → H) :
    ReturnsInHanded {} Try.checked os 3 .any (Rows.fnExactSameBooksSpec.pre6 enc Try.prog Try.f3 Rows.fnExactSameBooksRow.domain false) (Rows.fnExactSameBooksSpec.post enc Try.prog Try.f3 false true false false) := by
  refine returnsInHanded_of_change (C := Try.checked) Try.own started (by kernel_rfl) Try.func3
    (ChangeSpec.witness6 (enc := enc) (C := Try.checked) false ⟨#[], #[.agg #[.slice none 0 0, .int .i64 0, .slice none 0 0], .agg #[.slice none 0 0, .int .i64 0, .slice none 0 0]], []⟩ 8 (by kernel_rfl) (by kernel_rfl) (by kernel_rfl) (by kernel_rfl)) ?_
  intro W base args ds gs before hval0 hW hcnd _
  have hval : ∀ (j : Nat) t v, Try.f3.params[j]? = some t → args[j]? = some v → Value.okWide Try.prog W .any base t v := hval0
  have hW' := hW
  obtain ⟨p, q, hA0, hV, rfl, hfz, hnd⟩ := hW
  have hA : DataW.TrodAll enc Try.prog W 0 (fun _ => true) true Try.f3.params.toList args.toList ds p := hA0
  rw [Try.params3] at hA hval
  obtain ⟨v0, vs0, d0, ds0, p0, q0, hargs, rfl, rfl, h0, r0⟩ := trodAll_cons hA
  obtain ⟨v1, vs1, d1, ds1, p1, q1, rfl, rfl, rfl, h1, r1⟩ := trodAll_cons r0
  obtain ⟨rfl, rfl, rfl⟩ := trodAll_nil r1
  obtain rfl : args = #[v0, v1] := by cases args; simp_all
  obtain ⟨rfl, rfl⟩ := trodVars_none hV
  obtain ⟨sAa, sna, sca, ka, dAa, dna, dca, ssa, dsa, rfl, hra, hda, hna, hma, hka, hoka, hoda⟩ := open_books (hval 0 25 v0 rfl rfl) h0
  obtain ⟨sAb, snb, scb, kb, dAb, dnb, dcb, ssb, dsb, rfl, hrb, hdb, hnb, hmb, hkb, hokb, hodb⟩ := open_books (hval 1 25 v1 rfl rfl) h1
  refine (walk W sAa sna sca ka dAa dna dca ssa dsa hra hda hna hma hka hoka hoda sAb snb scb kb dAb dnb dcb ssb dsb hrb hdb hnb hmb hkb hokb hodb).mono fun e W' ⟨he, hb⟩ => ?_
  subst he
  exact ⟨_, rfl, law_post Try.laidOut (by kernel_rfl) (by kernel_rfl) Try.underlying4 hW' rfl ⟨rfl, rfl, rfl⟩ hb⟩

theorem proved : Rows.FnExactSameBooksSaid :=
  OpenClaim.holds_of_wide 3 Try.f3 rfl rfl rfl rfl rfl rfl rfl ⟨rfl, rfl, rfl, rfl, rfl⟩ rfl rfl rfl rfl rfl (by kernel_rfl) Try.func3 (by kernel_rfl)
    (of_decide_eq_true (by kernel_rfl)) (by unfold Func.isWrapper; first | (rw [if_pos (by decide +kernel)]; kernel_rfl) | (rw [if_neg (by decide +kernel)]; exact ⟨rfl, rfl⟩))
    (fun os started H enc _ => lifted os started H enc)
#print axioms proved
end Go.Proofs.Ytlgodbjbllpipaa.fnExactSameBooks
