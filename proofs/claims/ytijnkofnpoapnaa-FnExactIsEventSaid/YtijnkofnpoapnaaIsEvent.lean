/- FnExactIsEvent returns true for all arguments. No condition. -/
import Derived.Test.YtijnkofnpoapnaaEvent
namespace Go.Proofs.Ytijnkofnpoapnaa.fnExactIsEvent
open Go.ChangeShapes Go.WideShapes Go.ChangeAt Go.RowKit

set_option maxHeartbeats 2000000 in
theorem walk (w : World) (x : Ev) (hx : evOk x) :
    Calls Try.prog 9 #[evAgg x] w fun e w' => e = .returned (.bool true) ∧ Below w.heap.size w w' := by
  have hs := hx.2.2.2.1
  clear hx
  by_cases hl : (1048576 : Int) - x.item.size < 0
  · go_enter Try.func9, Try.ntmps9
    go_wp2_with fail
    refine (szEvent_any x _ _ (by omega) (by omega) hs).mono ?_; rw [if_pos (by omega)]; rintro e w1 ⟨rfl, hb1⟩
    have b1 := below_then (below_box w _) hb1
    go_wp2_with fail
    go_ret
    exact ⟨rfl, b1⟩
  · go_enter Try.func9, Try.ntmps9
    go_wp2_with fail
    refine (szEvent_any x _ _ (by omega) (by omega) hs).mono ?_; rw [if_neg (by omega)]; rintro e w1 ⟨rfl, hb1⟩
    have X := Lib.hid (blk_keep hb1 (blk_new1 w _))
    have b1 := below_then (below_box w _) hb1
    have x0 := blk_at X.out (j := 0) rfl; have x1 := blk_at X.out (j := 1) rfl; have x2 := blk_at X.out (j := 2) rfl; have x3 := blk_at X.out (j := 3) rfl; have x4 := blk_at X.out (j := 4) rfl; have x5 := blk_at X.out (j := 5) rfl; have x6 := blk_at X.out (j := 6) rfl
    clear hb1
    go_wp2_with fail
    refine (toEvent_any x _).mono ?_; rintro e w2 ⟨rfl, hb2⟩
    go_wp2_with fail
    refine (specIsEvent x _ hs).mono ?_; rintro e w3 ⟨rfl, hb3⟩
    have bb := below_then hb2 hb3
    have X := Lib.hid (blk_keep bb X.out)
    have b3 := below_then b1 bb
    clear hb2 hb3 bb b1 x0 x1 x2 x3 x4 x5 x6
    have x0 := blk_at X.out (j := 0) rfl; have x1 := blk_at X.out (j := 1) rfl; have x2 := blk_at X.out (j := 2) rfl; have x3 := blk_at X.out (j := 3) rfl; have x4 := blk_at X.out (j := 4) rfl; have x5 := blk_at X.out (j := 5) rfl; have x6 := blk_at X.out (j := 6) rfl
    go_wp2_with fail
    refine (toEvent_any x _).mono ?_; rintro e w4 ⟨rfl, hb4⟩
    go_wp2_with fail
    refine (implIsEvent x _ hs).mono ?_; rintro e w5 ⟨rfl, hb5⟩
    have b5 := below_then b3 (below_then hb4 hb5)
    go_wp2_with fail
    go_ret
    exact ⟨rfl, b5⟩
set_option maxRecDepth 100000 in
theorem lifted (os : Os) (started : os.Started) (H : Type) (enc : TypeId × Value → H) :
    ReturnsInHanded {} Try.checked os 9 .any (Rows.fnExactIsEventSpec.pre6 enc Try.prog Try.f9 Rows.fnExactIsEventRow.domain false) (Rows.fnExactIsEventSpec.post enc Try.prog Try.f9 false true false false) := by
  refine returnsInHanded_of_change (C := Try.checked) Try.own started (by kernel_rfl) Try.func9
    (ChangeSpec.witness6 (enc := enc) (C := Try.checked) false ⟨#[], #[.agg #[.int .i64 0, .int .i64 0, .int .i64 0, .string .empty, .int .i64 0, .int .i64 0, .int .i64 0]], []⟩ 8 (by kernel_rfl) (by kernel_rfl) (by kernel_rfl) (by kernel_rfl)) ?_
  intro W base args ds gs before hval0 hW hcnd _
  have hval : ∀ (j : Nat) t v, Try.f9.params[j]? = some t → args[j]? = some v → Value.okWide Try.prog W .any base t v := hval0
  have hW' := hW
  obtain ⟨p, q, hA0, hV, rfl, hfz, hnd⟩ := hW
  have hA : DataW.TrodAll enc Try.prog W 0 (fun _ => true) true Try.f9.params.toList args.toList ds p := hA0
  rw [Try.params9] at hA hval
  obtain ⟨v0, vs0, d0, ds0, p0, q0, hargs, rfl, rfl, h0, r0⟩ := trodAll_cons hA
  obtain ⟨rfl, rfl, rfl⟩ := trodAll_nil r0
  obtain rfl : args = #[v0] := by cases args; simp_all
  obtain ⟨rfl, rfl⟩ := trodVars_none hV
  obtain ⟨x, rfl, hx⟩ := open_event (hval 0 67 v0 rfl rfl) h0
  refine (walk W x hx).mono fun e W' ⟨he, hb⟩ => ?_
  subst he
  exact ⟨_, rfl, law_post Try.laidOut (by kernel_rfl) (by kernel_rfl) Try.underlying4 hW' rfl ⟨rfl, rfl, rfl⟩ hb⟩

theorem proved : Rows.FnExactIsEventSaid :=
  OpenClaim.holds_of_wide 9 Try.f9 rfl rfl rfl rfl rfl rfl rfl ⟨rfl, rfl, rfl, rfl, rfl⟩ rfl rfl rfl rfl rfl (by kernel_rfl) Try.func9 (by kernel_rfl)
    (of_decide_eq_true (by kernel_rfl)) (by unfold Func.isWrapper; first | (rw [if_pos (by decide +kernel)]; kernel_rfl) | (rw [if_neg (by decide +kernel)]; exact ⟨rfl, rfl⟩))
    (fun os started H enc _ => lifted os started H enc)
#print axioms proved
end Go.Proofs.Ytijnkofnpoapnaa.fnExactIsEvent
