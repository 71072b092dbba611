/- FnExactGoneCost returns true for all arguments, and leaves them as they were. No condition. -/
import Derived.Test.YtknfhiepndffpaaLayOpen
import Derived.Test.YtknfhiepndffpaaLayB
import Derived.Test.YtknfhiepndffpaaLayD
namespace Go.Proofs.Ytknfhiepndffpaa.fnExactGoneCost
open Go.ChangeShapes Go.WideShapes Go.ChangeAt Go.RowKit

set_option maxHeartbeats 1000000 in
theorem walk (w : World) (A : Option Addr) (n c : Nat) (l : List Lay) (hr : RS w 3 A n (layCells l)) (hn : n ≤ 9223372036854775807) (_hok : ∀ y ∈ l, layI64 y) :
    Calls Try.prog 6 #[.slice A n c] w fun e w' => e = .returned (.bool true) ∧ Below w.heap.size w w' := by
  by_cases hs : (1048576 : Int) - n < 0
  · go_enter Try.func6, Try.ntmps6
    go_wp2_with (go_at_call 26; refine (szLayerS_any _ _ _ _ _ (by omega) (by omega) hn).mono ?_; rw [if_pos hs]; rintro e w' ⟨rfl, rfl⟩)
    go_ret
    exact ⟨rfl, Below.refl _ _⟩
  · go_enter Try.func6, Try.ntmps6
    go_wp2_with (go_at_call 26; refine (szLayerS_any _ _ _ _ _ (by omega) (by omega) hn).mono ?_; rw [if_neg hs]; rintro e w' ⟨rfl, rfl⟩)
    refine (toLayerS_any _ _ _ l _ hr (by omega)).mono ?_; rintro e w1 ⟨A1, c1, rfl, ho1, hb1⟩
    go_wp2_with fail
    refine (specGoneCost _ _ _ l _ (RS.of_own ho1) (by omega)).mono ?_; rintro e w2 ⟨rfl, hb2⟩
    have b2 := below_then hb1 hb2
    go_wp2_with fail
    refine (toLayerS_any _ _ _ l _ (hr.below b2) (by omega)).mono ?_; rintro e w3 ⟨A3, c3, rfl, ho3, hb3⟩
    have b3 := below_then b2 hb3
    go_wp2_with fail
    refine (implGoneCost _ _ _ l _ (RS.of_own ho3) (by omega)).mono ?_; rintro e w4 ⟨rfl, hb4⟩
    have b4 := below_then b3 hb4
    go_wp2_with fail
    refine (toLayerS_any _ _ _ l _ (hr.below b4) (by omega)).mono ?_; rintro e w5 ⟨A5, c5, rfl, ho5, hb5⟩
    have b5 := below_then b4 hb5
    go_wp2_with fail
    refine (eqLayerS_any _ _ _ l _ _ _ l _ ((RS.of_own ho3).below (below_then hb4 hb5)) (RS.of_own ho5) (by omega) (by omega)).mono ?_; rintro e w6 ⟨rfl, hb6⟩
    have b6 := below_then b5 hb6
    go_wp2_with fail
    go_ret
    exact ⟨rfl, b6⟩

set_option maxRecDepth 100000 in
theorem lifted (os : Os) (started : os.Started) (H : Type) (enc : TypeId × Value → H) :
    ReturnsInHanded {} Try.checked os 6 .any (Rows.fnExactGoneCostSpec.pre6 enc Try.prog Try.f6 Rows.fnExactGoneCostRow.domain false) (Rows.fnExactGoneCostSpec.post enc Try.prog Try.f6 false true false false) := by
  refine returnsInHanded_of_change (C := Try.checked) Try.own started (by kernel_rfl) Try.func6
    (ChangeSpec.witness6 (enc := enc) (C := Try.checked) false ⟨#[], #[.slice none 0 0], []⟩ 8 (by kernel_rfl) (by kernel_rfl) (by kernel_rfl) (by kernel_rfl)) ?_
  intro W base args ds gs before hval0 hW hcnd _
  have hval : ∀ (j : Nat) t v, Try.f6.params[j]? = some t → args[j]? = some v → Value.okWide Try.prog W .any base t v := hval0
  have hW' := hW
  obtain ⟨p, q, hA0, hV, rfl, hfz, hnd⟩ := hW
  have hA : DataW.TrodAll enc Try.prog W 0 (fun _ => true) true Try.f6.params.toList args.toList ds p := hA0
  rw [Try.params6] at hA hval
  obtain ⟨v0, vs0, d0, ds0, p0, q0, hargs, rfl, rfl, h0, r0⟩ := trodAll_cons hA
  obtain ⟨rfl, rfl, rfl⟩ := trodAll_nil r0
  obtain rfl : args = #[v0] := by cases args; simp_all
  obtain ⟨rfl, rfl⟩ := trodVars_none hV
  obtain ⟨Al, nl, cl, l, rfl, hrl, hnl, hokl⟩ := open_lays (hval 0 32 v0 rfl rfl) h0
  refine (walk W Al nl cl l hrl hnl hokl).mono fun e W' ⟨he, hb⟩ => ?_
  subst he
  exact ⟨_, rfl, law_post Try.laidOut (by kernel_rfl) (by kernel_rfl) Try.underlying4 hW' rfl ⟨rfl, rfl, rfl⟩ hb⟩

theorem proved : Rows.FnExactGoneCostSaid :=
  OpenClaim.holds_of_wide 6 Try.f6 rfl rfl rfl rfl rfl rfl rfl ⟨rfl, rfl, rfl, rfl, rfl⟩ rfl rfl rfl rfl rfl (by kernel_rfl) Try.func6 (by kernel_rfl)
    (of_decide_eq_true (by kernel_rfl)) (by unfold Func.isWrapper; first | (rw [if_pos (by decide +kernel)]; kernel_rfl) | (rw [if_neg (by decide +kernel)]; exact ⟨rfl, rfl⟩))
    (fun os started H enc _ => lifted os started H enc)
#print axioms proved
end Go.Proofs.Ytknfhiepndffpaa.fnExactGoneCost
