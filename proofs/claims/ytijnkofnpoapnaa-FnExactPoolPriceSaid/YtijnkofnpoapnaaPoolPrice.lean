/- FnExactPoolPrice returns true for all arguments. No condition. -/
import Derived.Test.YtijnkofnpoapnaaPrice
namespace Go.Proofs.Ytijnkofnpoapnaa.fnExactPoolPrice
open Go.ChangeShapes Go.WideShapes Go.ChangeAt Go.RowKit

set_option maxHeartbeats 1000000 in
theorem walk (w : World) (q v : Int) (_hq : i64 q) (_hv : i64 v) :
    Calls Try.prog 3 #[.agg #[.int .i64 q, .int .i64 v]] w fun e w' => e = .returned (.bool true) ∧ Below w.heap.size w w' := by
  go_enter Try.func3, Try.ntmps3
  go_wp2_with fail
  refine (toPool_any _ _ _).mono ?_; rintro e w1 ⟨rfl, hb1⟩
  go_wp2_with fail
  refine (specPoolPrice _ _ _).mono ?_; rintro e w2 ⟨rfl, hb2⟩
  have b2 := below_then hb1 hb2
  have X2 := Lib.hid (blk_keep b2 (blk_new1 _ _))
  have x0 := cell_alloc (blk_at X2.out (j := 0) rfl); have x1 := cell_alloc (blk_at X2.out (j := 1) rfl)
  have c2 := below_then (below_box w _) b2
  clear hb1 hb2 b2
  go_wp2_with fail
  refine (toPool_any _ _ _).mono ?_; rintro e w3 ⟨rfl, hb3⟩
  go_wp2_with fail
  refine (implPoolPrice _ _ _).mono ?_; rintro e w4 ⟨rfl, hb4⟩
  have b4 := below_then hb3 hb4
  have O4 := Lib.hid (blk_keep b4 (blk_new1 _ _))
  have o0 := cell_alloc (blk_at O4.out (j := 0) rfl); have o1 := cell_alloc (blk_at O4.out (j := 1) rfl)
  have c4 := below_then (below_then c2 (below_box w2 _)) b4
  clear hb3 hb4 b4 x0 x1
  go_wp2_with fail
  refine (eqRatio_any _ _ _ _ _).mono ?_; rw [decide_eq_true (⟨rfl, rfl⟩ : priceN q v = priceN q v ∧ priceD q v = priceD q v)]; rintro e w5 ⟨rfl, hb5⟩
  go_wp2_with fail
  go_ret
  exact ⟨rfl, below_then (below_then c4 (below_box w4 _)) hb5⟩
set_option maxRecDepth 100000 in
theorem lifted (os : Os) (started : os.Started) (H : Type) (enc : TypeId × Value → H) :
    ReturnsInHanded {} Try.checked os 3 .any (Rows.fnExactPoolPriceSpec.pre6 enc Try.prog Try.f3 Rows.fnExactPoolPriceRow.domain false) (Rows.fnExactPoolPriceSpec.post enc Try.prog Try.f3 false true false false) := by
  refine returnsInHanded_of_change (C := Try.checked) Try.own started (by kernel_rfl) Try.func3
    (ChangeSpec.witness6 (enc := enc) (C := Try.checked) false ⟨#[], #[.agg #[.int .i64 0, .int .i64 0]], []⟩ 8 (by kernel_rfl) (by kernel_rfl) (by kernel_rfl) (by kernel_rfl)) ?_
  intro W base args ds gs before hval0 hW hcnd _
  have hval : ∀ (j : Nat) t v, Try.f3.params[j]? = some t → args[j]? = some v → Value.okWide Try.prog W .any base t v := hval0
  have hW' := hW
  obtain ⟨p, q, hA0, hV, rfl, hfz, hnd⟩ := hW
  have hA : DataW.TrodAll enc Try.prog W 0 (fun _ => true) true Try.f3.params.toList args.toList ds p := hA0
  rw [Try.params3] at hA hval
  obtain ⟨v0, vs0, d0, ds0, p0, q0, hargs, rfl, rfl, h0, r0⟩ := trodAll_cons hA
  obtain ⟨rfl, rfl, rfl⟩ := trodAll_nil r0
  obtain rfl : args = #[v0] := by cases args; simp_all
  obtain ⟨rfl, rfl⟩ := trodVars_none hV
  obtain ⟨xq, xv, rfl, hxq, hxv⟩ := open_pool (hval 0 23 v0 rfl rfl) h0
  refine (walk W xq xv hxq hxv).mono fun e W' ⟨he, hb⟩ => ?_
  subst he
  exact ⟨_, rfl, law_post Try.laidOut (by kernel_rfl) (by kernel_rfl) Try.underlying4 hW' rfl ⟨rfl, rfl, rfl⟩ hb⟩

theorem proved : Rows.FnExactPoolPriceSaid :=
  OpenClaim.holds_of_wide 3 Try.f3 rfl rfl rfl rfl rfl rfl rfl ⟨rfl, rfl, rfl, rfl, rfl⟩ rfl rfl rfl rfl rfl (by kernel_rfl) Try.func3 (by kernel_rfl)
    (of_decide_eq_true (by kernel_rfl)) (by unfold Func.isWrapper; first | (rw [if_pos (by decide +kernel)]; kernel_rfl) | (rw [if_neg (by decide +kernel)]; exact ⟨rfl, rfl⟩))
    (fun os started H enc _ => lifted os started H enc)
#print axioms proved
end Go.Proofs.Ytijnkofnpoapnaa.fnExactPoolPrice
