/- FnExactAreEntries returns true for all arguments, and leaves them as they were. No condition. -/
import Derived.Test.YtefhgilnfdmnlaaLedgerA
namespace Go.Proofs.Ytefhgilnfdmnlaa.fnExactAreEntries
open Go.ChangeShapes Go.WideShapes Go.ChangeAt Go.RowKit

set_option maxRecDepth 100000 in
set_option maxHeartbeats 2000000 in
theorem walk (w : World) (Al : Option Addr) (nl cl : Nat) (l : List En) (hrl : RS w 2 Al nl (l.flatMap enCell)) (hnl : nl ≤ 9223372036854775807) (hokl : ∀ y ∈ l, enOk y) :
    Calls Try.prog 3 #[.slice Al nl cl] w fun e w' => e = .returned (.bool true) ∧ Below w.heap.size w w' := by
  by_cases zl : (1048576 : Int) < (nl + sumF enSz l nl)
  · have HZ := Lib.hid zl; clear zl
    go_enter Try.func3, Try.ntmps3
    go_wp2_with fail
    refine (szEntryS_any _ _ _ l _ _ hrl (by omega) hokl (by omega) (by omega)).mono ?_; rw [szRes_no HZ.out]; rintro e v0 ⟨rfl, hb0⟩
    have bz0 := hb0
    go_wp2_with fail
    go_ret
    exact ⟨rfl, bz0⟩
  have nnl := sumF_nonneg (f := enSz) (l := l) (fun y _ => enSz_nonneg y) nl
  have Zl := Int.not_lt.1 zl
  clear zl
  have ql : nl ≤ 1048576 := by have := Zl; omega
  go_enter Try.func3, Try.ntmps3
  go_wp2_with fail
  refine (szEntryS_any _ _ _ l _ _ hrl (by omega) hokl (by omega) (by have := Zl; omega)).mono ?_; rw [szRes_yes (by have := Zl; omega)]; rintro e w1 ⟨rfl, hb1⟩
  have b1 := hb1
  clear hb1
  have hz0 : True := trivial
  go_wp2_with fail
  refine (toEntryS_any _ _ _ l _ (hrl.below b1) (by omega)).mono ?_; rintro e w2 ⟨A2, c2, rfl, X1, hb2⟩
  have b2 := below_then b1 hb2
  have Z_X1 := Lib.hid b1.size
  clear hb2 b1
  go_wp2_with fail
  refine (specAreEntries _ _ _ l _ (RS.of_own X1) (by omega) (fun y hy => (hokl y hy).1)).mono ?_; rintro e w3 ⟨rfl, hb3⟩
  have b3 := below_then b2 hb3
  have X1 := own_below X1 hb3
  clear hb3 b2
  clear X1
  go_wp2_with fail
  refine (toEntryS_any _ _ _ l _ (hrl.below b3) (by omega)).mono ?_; rintro e w4 ⟨A4, c4, rfl, X2, hb4⟩
  have b4 := below_then b3 hb4
  have Z_X2 := Lib.hid b3.size
  clear hb4 b3
  go_wp2_with fail
  refine (implAreEntries _ _ _ l _ (RS.of_own X2) (by omega) (fun y hy => (hokl y hy).1)).mono ?_; rintro e w5 ⟨rfl, hb5⟩
  have b5 := below_then b4 hb5
  have X2 := own_below X2 hb5
  clear hb5 b4
  go_wp2_with fail
  refine (toEntryS_any _ _ _ l _ (hrl.below b5) (by omega)).mono ?_; rintro e w6 ⟨A6, c6, rfl, X3, hb6⟩
  have b6 := below_then b5 hb6
  have P_X2_X3 := Lib.hid (own_apart X2 X3 (Nat.le_refl _))
  have Z_X3 := Lib.hid b5.size
  have X2 := own_below X2 hb6
  clear hb6 b5
  go_wp2_with fail
  refine (eqEntryS_true _ _ _ l _ _ _ l _ (RS.of_own X2) (RS.of_own X3) (by omega) (by omega) rfl).mono ?_; rintro e w7 ⟨rfl, hb7⟩
  have b7 := below_then b6 hb7
  have X2 := own_below X2 hb7
  have X3 := own_below X3 hb7
  clear hb7 b6
  clear X3
  go_wp2_with fail
  go_ret
  exact ⟨rfl, b7⟩

set_option maxRecDepth 100000 in
theorem lifted (os : Os) (started : os.Started) (H : Type) (enc : TypeId × Value → H) :
    ReturnsInHanded {} Try.checked os 3 .any (Rows.fnExactAreEntriesSpec.pre6 enc Try.prog Try.f3 Rows.fnExactAreEntriesRow.domain false) (Rows.fnExactAreEntriesSpec.post enc Try.prog Try.f3 false true false false) := by
  refine returnsInHanded_of_change (C := Try.checked) Try.own started (by kernel_rfl) Try.func3
    (ChangeSpec.witness6 (enc := enc) (C := Try.checked) false ⟨#[], #[.slice none 0 0], []⟩ 8 (by kernel_rfl) (by kernel_rfl) (by kernel_rfl) (by kernel_rfl)) ?_
  intro W base args ds gs before hval0 hW hcnd _
  have hval : ∀ (j : Nat) t v, Try.f3.params[j]? = some t → args[j]? = some v → Value.okWide Try.prog W .any base t v := hval0
  have hW' := hW
  obtain ⟨p, q, hA0, hV, rfl, hfz, hnd⟩ := hW
  have hA : DataW.TrodAll enc Try.prog W 0 (fun _ => true) true Try.f3.params.toList args.toList ds p := hA0
  rw [Try.params3] at hA hval
  obtain ⟨v0, vs0, d0, ds0, p0, q0, hargs, rfl, rfl, h0, r0⟩ := trodAll_cons hA
  obtain ⟨rfl, rfl, rfl⟩ := trodAll_nil r0
  obtain rfl : args = #[v0] := by cases args; simp_all
  obtain ⟨rfl, rfl⟩ := trodVars_none hV
  obtain ⟨Al, nl, cl, l, rfl, hrl, hnl, hokl⟩ := open_ens (hval 0 22 v0 rfl rfl) h0
  refine (walk W Al nl cl l hrl hnl hokl).mono fun e W' ⟨he, hb⟩ => ?_
  subst he
  exact ⟨_, rfl, law_post Try.laidOut (by kernel_rfl) (by kernel_rfl) Try.underlying4 hW' rfl ⟨rfl, rfl, rfl⟩ hb⟩

theorem proved : Rows.FnExactAreEntriesSaid :=
  OpenClaim.holds_of_wide 3 Try.f3 rfl rfl rfl rfl rfl rfl rfl ⟨rfl, rfl, rfl, rfl, rfl⟩ rfl rfl rfl rfl rfl (by kernel_rfl) Try.func3 (by kernel_rfl)
    (of_decide_eq_true (by kernel_rfl)) (by unfold Func.isWrapper; first | (rw [if_pos (by decide +kernel)]; kernel_rfl) | (rw [if_neg (by decide +kernel)]; exact ⟨rfl, rfl⟩))
    (fun os started H enc _ => lifted os started H enc)
#print axioms proved
end Go.Proofs.Ytefhgilnfdmnlaa.fnExactAreEntries
