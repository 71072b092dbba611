/- FnExactBooksAgree returns true for all arguments, and leaves them as they were. No condition. -/
import Derived.Test.YtlgodbjbllpipaaAgreeW
import Derived.Test.YtlgodbjbllpipaaShelfB
import Derived.Deep.RegionHeld3
namespace Go.Proofs.Ytlgodbjbllpipaa.fnExactBooksAgree
open Go.ChangeShapes Go.WideShapes Go.ChangeAt Go.RowKit

set_option maxRecDepth 100000 in
set_option maxHeartbeats 4000000 in
theorem walk (w : World) (sAb : Option Addr) (snb scb : Nat) (kb : Int) (dAb : Option Addr) (dnb dcb : Nat) (ssb : List Shf) (dsb : List Doc) (hrb : ShelvesR w sAb snb ssb) (hdb : DocsR w dAb dnb dsb) (hnb : snb ≤ 9223372036854775807) (hmb : dnb ≤ 9223372036854775807) (_hkb : i64 kb) (hokb : ∀ y ∈ ssb, shOk y) (hodb : ∀ y ∈ dsb, docOk y) :
    Calls Try.prog 7 #[.agg #[.slice sAb snb scb, .int .i64 kb, .slice dAb dnb dcb]] w fun e w' => e = .returned (.bool true) ∧ Below w.heap.size w w' := by
  by_cases zb : (1048576 : Int) < bkSz snb dnb ssb dsb
  ·
    have HZ := Lib.hid (szRes_no zb); clear zb
    go_enter Try.func7, Try.ntmps7
    have B0 := Lib.hid (below_box w _ : Below w.heap.size w (w.alloc (Obj.cells #[.slice sAb snb scb, .int .i64 kb, .slice dAb dnb dcb] 25)))
    have Xb := Lib.hid (blk_new1 w (Obj.cells #[.slice sAb snb scb, .int .i64 kb, .slice dAb dnb dcb] 25))
    have hrb := hrb.below B0.out; have hdb := hdb.below B0.out
    go_wp2_with fail
    generalize hwo : (w.alloc (Obj.cells #[.slice sAb snb scb, .int .i64 kb, .slice dAb dnb dcb] 25)) = wo at *
    clear hwo
    refine (szBooks_any _ _ _ kb _ _ _ ssb dsb _ _ hrb hdb hnb hmb hokb hodb (by omega) (by omega)).mono ?_; rw [HZ.out]; rintro e w1 ⟨rfl, g1⟩
    have b1 := g1
    go_wp2_with fail
    go_ret
    exact ⟨rfl, below_then B0.out b1⟩
  have Zb := Int.not_lt.1 zb
  have nnb := bkSz_nonneg snb dnb ssb dsb
  clear zb
  have Qb := Lib.hid (bk_small hrb.len hdb.len (show bkSz snb dnb ssb dsb ≤ 1048576 by have := Zb; omega))
  have qb := Qb.out.1; have tb := Qb.out.2.1
  have Rb := Lib.hid (szRes_yes Zb)
  have Lb := Lib.hid (show (0 : Int) ≤ 1048576 ∧ 1048576 ≤ (1048576 : Int) by have := Zb; omega)
  
  go_enter Try.func7, Try.ntmps7
  have B0 := Lib.hid (below_box w _ : Below w.heap.size w (w.alloc (Obj.cells #[.slice sAb snb scb, .int .i64 kb, .slice dAb dnb dcb] 25)))
  have Xb := Lib.hid (blk_new1 w (Obj.cells #[.slice sAb snb scb, .int .i64 kb, .slice dAb dnb dcb] 25))
  have hrb := hrb.below B0.out; have hdb := hdb.below B0.out
  go_wp2_with fail
  generalize hwo : (w.alloc (Obj.cells #[.slice sAb snb scb, .int .i64 kb, .slice dAb dnb dcb] 25)) = wo at *
  clear hwo
  refine (szBooks_any _ _ _ kb _ _ _ ssb dsb _ _ hrb hdb hnb hmb hokb hodb Lb.out.1 Lb.out.2).mono ?_; rw [Rb.out]; rintro e w1 ⟨rfl, g1⟩
  have b1 := g1
  have cb0 := blk_at (blk_keep b1 Xb.out) (j := 0) rfl
  have cb1 := blk_at (blk_keep b1 Xb.out) (j := 1) rfl
  have cb2 := blk_at (blk_keep b1 Xb.out) (j := 2) rfl
  go_wp2_with fail
  refine (toBooks_any _ _ scb kb _ _ dcb ssb dsb _ (hrb.below (b1)) (hdb.below (b1)) (by omega) (by omega) Qb.out.2.2.1 Qb.out.2.2.2).mono ?_; rintro e w2 ⟨A1, c1, D1, d1, rfl, O1, g2⟩
  have b2 := below_then b1 g2
  clear g2 b1
  clear cb0 cb1 cb2
  go_wp2_with fail
  refine (specBooksAgree _ _ _ kb _ _ _ ssb dsb _ O1.shelves O1.docs (by omega) (by omega) (shs_are Qb.out.2.2.1) (docs_are Qb.out.2.2.2 hodb)).mono ?_; rintro e w3 ⟨rfl, g3⟩
  have b3 := below_then b2 g3
  clear g3 b2
  clear O1
  have cb0 := blk_at (blk_keep b3 Xb.out) (j := 0) rfl
  have cb1 := blk_at (blk_keep b3 Xb.out) (j := 1) rfl
  have cb2 := blk_at (blk_keep b3 Xb.out) (j := 2) rfl
  go_wp2_with fail
  refine (toBooks_any _ _ scb kb _ _ dcb ssb dsb _ (hrb.below (b3)) (hdb.below (b3)) (by omega) (by omega) Qb.out.2.2.1 Qb.out.2.2.2).mono ?_; rintro e w4 ⟨A4, c4, D4, d4, rfl, Ox0, g4⟩
  have b4 := below_then b3 g4
  clear g4 b3
  clear cb0 cb1 cb2
  have hbx := below_box w4 (Obj.cells #[.slice A4 snb c4, .int .i64 kb, .slice D4 dnb d4] 31)
  have Xx0 := Lib.hid (blk_new1 w4 (Obj.cells #[.slice A4 snb c4, .int .i64 kb, .slice D4 dnb d4] 31))
  have Ox0 := Ox0.below hbx
  have bb0 := below_then b4 hbx
  clear hbx b4
  have z0 : w4.heap.size < (w4.alloc (Obj.cells #[.slice A4 snb c4, .int .i64 kb, .slice D4 dnb d4] 31)).heap.size := by simp
  have cx00 := blk_at Xx0.out (j := 0) rfl
  have cx01 := blk_at Xx0.out (j := 1) rfl
  have cx02 := blk_at Xx0.out (j := 2) rfl
  go_wp2_with fail
  refine (implBooksAgree _ _ _ kb _ _ _ ssb dsb _ Ox0.shelves Ox0.docs (by omega) (by omega) (shs_are Qb.out.2.2.1) (docs_are Qb.out.2.2.2 hodb)).mono ?_; rintro e w5 ⟨rfl, g5⟩
  have Ox0 := Ox0.below g5
  have Xx0 := Lib.hid (blk_keep g5 Xx0.out)
  have b5 := below_then bb0 g5
  clear g5 bb0
  clear cx00 cx01 cx02
  have cb0 := blk_at (blk_keep b5 Xb.out) (j := 0) rfl
  have cb1 := blk_at (blk_keep b5 Xb.out) (j := 1) rfl
  have cb2 := blk_at (blk_keep b5 Xb.out) (j := 2) rfl
  have cx00 := blk_at Xx0.out (j := 0) rfl
  have cx01 := blk_at Xx0.out (j := 1) rfl
  have cx02 := blk_at Xx0.out (j := 2) rfl
  go_wp2_with fail
  go_region_held3 (fun w' => w'.cell? ⟨w.heap.size, 0, none⟩ = some (.slice sAb snb scb) ∧ w'.cell? ⟨w.heap.size, 1, none⟩ = some (.int .i64 kb) ∧ w'.cell? ⟨w.heap.size, 2, none⟩ = some (.slice dAb dnb dcb) ∧ w'.cell? ⟨w4.heap.size, 0, none⟩ = some (.slice A4 snb c4) ∧ w'.cell? ⟨w4.heap.size, 1, none⟩ = some (.int .i64 kb) ∧ w'.cell? ⟨w4.heap.size, 2, none⟩ = some (.slice D4 dnb d4))
    (first
      | go_keep
      | (go_split_ands; exact ⟨cell_keep h1 ‹_›, cell_keep h1 ‹_›, cell_keep h1 ‹_›, cell_keep h1 ‹_›, cell_keep h1 ‹_›, cell_keep h1 ‹_›⟩)
      | (go_split_ands; exact ⟨cell_keep h2 ‹_›, cell_keep h2 ‹_›, cell_keep h2 ‹_›, cell_keep h2 ‹_›, cell_keep h2 ‹_›, cell_keep h2 ‹_›⟩))
    (first
      | (go_at_call 12; refine (toBooks_any _ _ scb kb _ _ dcb ssb dsb _ (hrb.below (b5.drew)) (hdb.below (b5.drew)) (by omega) (by omega) Qb.out.2.2.1 Qb.out.2.2.2).mono ?_; rintro e v100 ⟨A100, c100, D100, d100, rfl, O100, h1⟩; have Ox0 := (Ox0.below (Below.refl _ _).drew).below h1)
      | (go_at_call 14; refine (eqBooks_true _ _ _ kb _ _ _ _ _ _ _ _ _ ssb dsb _ Ox0.shelves Ox0.docs O100.shelves O100.docs (by omega) (by omega) (by omega) (by omega) hokb (fun d hd => Nat.le_trans (Qb.out.2.2.2 d hd) (by omega))).mono ?_; rintro e v101 ⟨rfl, h2⟩))
  have bh := ((Below.refl w5.heap.size w5).drew.trans h1).trans (h2.mono h1.size)
  have b101 := below_then b5 bh
  clear h1 h2 bh b5 Ox0 O100
  clear cb0 cb1 cb2 cx00 cx01 cx02
  go_wp2_with fail
  go_ret
  exact ⟨rfl, below_then B0.out b101⟩

set_option maxRecDepth 100000 in
theorem lifted (os : Os) (started : os.Started) (H : Type) (enc : TypeId × Value → H) :
    ReturnsInHanded {} Try.checked os 7 .any (Rows.fnExactBooksAgreeSpec.pre6 enc Try.prog Try.f7 Rows.fnExactBooksAgreeRow.domain false) (Rows.fnExactBooksAgreeSpec.post enc Try.prog Try.f7 false true false false) := by
  refine returnsInHanded_of_change (C := Try.checked) Try.own started (by kernel_rfl) Try.func7
    (ChangeSpec.witness6 (enc := enc) (C := Try.checked) false ⟨#[], #[.agg #[.slice none 0 0, .int .i64 0, .slice none 0 0]], []⟩ 8 (by kernel_rfl) (by kernel_rfl) (by kernel_rfl) (by kernel_rfl)) ?_
  intro W base args ds gs before hval0 hW hcnd _
  have hval : ∀ (j : Nat) t v, Try.f7.params[j]? = some t → args[j]? = some v → Value.okWide Try.prog W .any base t v := hval0
  have hW' := hW
  obtain ⟨p, q, hA0, hV, rfl, hfz, hnd⟩ := hW
  have hA : DataW.TrodAll enc Try.prog W 0 (fun _ => true) true Try.f7.params.toList args.toList ds p := hA0
  rw [Try.params7] at hA hval
  obtain ⟨v0, vs0, d0, ds0, p0, q0, hargs, rfl, rfl, h0, r0⟩ := trodAll_cons hA
  obtain ⟨rfl, rfl, rfl⟩ := trodAll_nil r0
  obtain rfl : args = #[v0] := by cases args; simp_all
  obtain ⟨rfl, rfl⟩ := trodVars_none hV
  obtain ⟨sAb, snb, scb, kb, dAb, dnb, dcb, ssb, dsb, rfl, hrb, hdb, hnb, hmb, hkb, hokb, hodb⟩ := open_books (hval 0 25 v0 rfl rfl) h0
  refine (walk W sAb snb scb kb dAb dnb dcb ssb dsb hrb hdb hnb hmb hkb hokb hodb).mono fun e W' ⟨he, hb⟩ => ?_
  subst he
  exact ⟨_, rfl, law_post Try.laidOut (by kernel_rfl) (by kernel_rfl) Try.underlying4 hW' rfl ⟨rfl, rfl, rfl⟩ hb⟩

theorem proved : Rows.FnExactBooksAgreeSaid :=
  OpenClaim.holds_of_wide 7 Try.f7 rfl rfl rfl rfl rfl rfl rfl ⟨rfl, rfl, rfl, rfl, rfl⟩ rfl rfl rfl rfl rfl (by kernel_rfl) Try.func7 (by kernel_rfl)
    (of_decide_eq_true (by kernel_rfl)) (by unfold Func.isWrapper; first | (rw [if_pos (by decide +kernel)]; kernel_rfl) | (rw [if_neg (by decide +kernel)]; exact ⟨rfl, rfl⟩))
    (fun os started H enc _ => lifted os started H enc)
#print axioms proved
end Go.Proofs.Ytlgodbjbllpipaa.fnExactBooksAgree
