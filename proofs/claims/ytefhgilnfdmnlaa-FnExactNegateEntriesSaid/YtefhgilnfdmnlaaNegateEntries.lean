/- FnExactNegateEntries returns true for all arguments, and leaves them as they were. No condition. -/
import Derived.Test.YtefhgilnfdmnlaaLedgerB
namespace Go.Proofs.Ytefhgilnfdmnlaa.fnExactNegateEntries
open Go.ChangeShapes Go.WideShapes Go.ChangeAt Go.RowKit

set_option maxRecDepth 100000 in
set_option maxHeartbeats 2000000 in
theorem walk (w : World) (Al : Option Addr) (nl cl : Nat) (l : List En) (hrl : RS w 2 Al nl (l.flatMap enCell)) (hnl : nl ≤ 9223372036854775807) (hokl : ∀ y ∈ l, enOk y) :
    Calls Try.prog 4 #[.slice Al nl cl] w fun e w' => e = .returned (.bool true) ∧ Below w.heap.size w w' := by
  by_cases zl : (1048576 : Int) < (nl + sumF enSz l nl)
  · have HZ := Lib.hid zl; clear zl
    go_enter Try.func4, Try.ntmps4
    go_wp2_with fail
    refine (szEntryS_any _ _ _ l _ _ hrl (by omega) hokl (by omega) (by omega)).mono ?_; rw [szRes_no HZ.out]; rintro e v0 ⟨rfl, hb0⟩
    have bz0 := hb0
    go_wp2_with fail
    go_ret
    exact ⟨rfl, bz0⟩
  have nnl := sumF_nonneg (f := enSz) (l := l) (fun y _ => enSz_nonneg y) nl
  have Zl := Int.not_lt.1 zl
  clear zl
  have ql : nl ≤ 1048576 := by have := Zl; omega
  obtain ⟨m, hm⟩ : ∃ m, (negEn l).length = m := ⟨_, rfl⟩
  have ol : m ≤ 1048600 := by rw [← hm]; exact (by rw [negEn_len]; have := hrl.flatLen enCell_len (by omega); omega)
  have HM := Lib.hid hm; clear hm
  go_enter Try.func4, Try.ntmps4
  go_wp2_with fail
  refine (szEntryS_any _ _ _ l _ _ hrl (by omega) hokl (by omega) (by have := Zl; omega)).mono ?_; rw [szRes_yes (by have := Zl; omega)]; rintro e w1 ⟨rfl, hb1⟩
  have b1 := hb1
  clear hb1
  have hz0 : True := trivial
  go_wp2_with fail
  refine (toEntryS_any _ _ _ l _ (hrl.below b1) (by omega)).mono ?_; rintro e w2 ⟨A2, c2, rfl, X1, hb2⟩
  have b2 := below_then b1 hb2
  have Z_X1 := Lib.hid b1.size
  clear hb2 b1
  go_wp2_with fail
  refine (specNegate _ _ _ l _ (RS.of_own X1) (by omega)).mono ?_; rw [HM.out]; rintro e w3 ⟨A3, c3, rfl, W, hb3⟩
  have b3 := below_then b2 hb3
  have P_X1_W := Lib.hid (own_apart X1 W (Nat.le_refl _))
  have Z_W := Lib.hid b2.size
  have X1 := own_below X1 hb3
  clear hb3 b2
  clear X1
  go_wp2_with fail
  refine (toEntryS_any _ _ _ l _ (hrl.below b3) (by omega)).mono ?_; rintro e w4 ⟨A4, c4, rfl, X2, hb4⟩
  have b4 := below_then b3 hb4
  have P_W_X2 := Lib.hid (own_apart W X2 (Nat.le_refl _))
  have Z_X2 := Lib.hid b3.size
  have W := own_below W hb4
  clear hb4 b3
  go_wp2_with fail
  refine (implNegate _ _ _ l _ (RS.of_own X2) (by omega)).mono ?_; rw [HM.out]; rintro e w5 ⟨A5, c5, rfl, R, hb5⟩
  have b5 := below_then b4 hb5
  have P_W_R := Lib.hid (own_apart W R (Nat.le_refl _))
  have P_X2_R := Lib.hid (own_apart X2 R (Nat.le_refl _))
  have Z_R := Lib.hid b4.size
  have W := own_below W hb5
  have X2 := own_below X2 hb5
  clear hb5 b4
  go_wp2_with fail
  refine (eqEntryS_true _ _ _ (negEn l) _ _ _ (negEn l) _ (RS.of_own R) (RS.of_own W) (by omega) (by omega) rfl).mono ?_; rintro e w6 ⟨rfl, hb6⟩
  have b6 := below_then b5 hb6
  have W := own_below W hb6
  have X2 := own_below X2 hb6
  have R := own_below R hb6
  clear hb6 b5
  go_wp2_with fail
  refine (toEntryS_any _ _ _ l _ (hrl.below b6) (by omega)).mono ?_; rintro e w7 ⟨A7, c7, rfl, X3, hb7⟩
  have b7 := below_then b6 hb7
  have P_W_X3 := Lib.hid (own_apart W X3 (Nat.le_refl _))
  have P_X2_X3 := Lib.hid (own_apart X2 X3 (Nat.le_refl _))
  have P_R_X3 := Lib.hid (own_apart R X3 (Nat.le_refl _))
  have Z_X3 := Lib.hid b6.size
  have W := own_below W hb7
  have X2 := own_below X2 hb7
  have R := own_below R hb7
  clear hb7 b6
  go_wp2_with fail
  refine (eqEntryS_true _ _ _ l _ _ _ l _ (RS.of_own X2) (RS.of_own X3) (by omega) (by omega) rfl).mono ?_; rintro e w8 ⟨rfl, hb8⟩
  have b8 := below_then b7 hb8
  have W := own_below W hb8
  have X2 := own_below X2 hb8
  have R := own_below R hb8
  have X3 := own_below X3 hb8
  clear hb8 b7
  clear X3
  go_wp2_with fail
  refine (markEntryS_any _ _ _ _ _ (1) _ X2 (by omega) (by omega) (by omega)).mono ?_; rintro e w9 ⟨rfl, NX2, hg9⟩
  have b9 := below_row b8 X2 hg9 Z_X2.out b8.size
  have W := row_grown W hg9 P_W_X2.out
  have R := row_grown R hg9 (apart_symm P_X2_R.out)
  clear hg9 X2 b8
  have X2 := NX2
  clear NX2
  have gk : ¬ ((1 + nl * 2 : Int) < 0) := by omega
  clear X2
  go_wp2_with fail
  refine (eqEntryS_true _ _ _ (negEn l) _ _ _ (negEn l) _ (RS.of_own R) (RS.of_own W) (by omega) (by omega) rfl).mono ?_; rintro e w10 ⟨rfl, hb10⟩
  have b10 := below_then b9 hb10
  have W := own_below W hb10
  have R := own_below R hb10
  clear hb10 b9
  go_wp2_with fail
  refine (markEntryS_any _ _ _ _ _ (1) _ R (by omega) (by omega) (by omega)).mono ?_; rintro e w11 ⟨rfl, NR, hg11⟩
  have b11 := below_row b10 R hg11 Z_R.out b10.size
  have W := row_grown W hg11 P_W_R.out
  clear hg11 R b10
  have R := NR
  clear NR
  go_wp2_with fail
  refine (heldEntryS_any _ _ _ (1) _ (RS.of_own R) (by omega) (by omega) (by omega)).mono ?_; rintro e w12 ⟨rfl, hb12⟩
  have b12 := below_then b11 hb12
  have W := own_below W hb12
  have R := own_below R hb12
  clear hb12 b11
  go_wp2_with fail
  refine (toEntryS_any _ _ _ l _ (hrl.below b12) (by omega)).mono ?_; rintro e w13 ⟨A13, c13, rfl, X4, hb13⟩
  have b13 := below_then b12 hb13
  have P_W_X4 := Lib.hid (own_apart W X4 (Nat.le_refl _))
  have P_R_X4 := Lib.hid (own_apart R X4 (Nat.le_refl _))
  have Z_X4 := Lib.hid b12.size
  have W := own_below W hb13
  have R := own_below R hb13
  clear hb13 b12
  go_wp2_with fail
  refine (implNegate _ _ _ l _ (RS.of_own X4) (by omega)).mono ?_; rw [HM.out]; rintro e w14 ⟨A14, c14, rfl, H, hb14⟩
  have b14 := below_then b13 hb14
  have P_W_H := Lib.hid (own_apart W H (Nat.le_refl _))
  have P_R_H := Lib.hid (own_apart R H (Nat.le_refl _))
  have P_X4_H := Lib.hid (own_apart X4 H (Nat.le_refl _))
  have Z_H := Lib.hid b13.size
  have W := own_below W hb14
  have R := own_below R hb14
  have X4 := own_below X4 hb14
  clear hb14 b13
  clear X4
  go_wp2_with fail
  refine (eqEntryS_true _ _ _ (negEn l) _ _ _ (negEn l) _ (RS.of_own H) (RS.of_own W) (by omega) (by omega) rfl).mono ?_; rintro e w15 ⟨rfl, hb15⟩
  have b15 := below_then b14 hb15
  have W := own_below W hb15
  have R := own_below R hb15
  have H := own_below H hb15
  clear hb15 b14
  clear H
  clear W
  go_wp2_with fail
  refine (heldEntryS_any _ _ _ (1) _ (RS.of_own R) (by omega) (by omega) (by omega)).mono ?_; rintro e w16 ⟨rfl, hb16⟩
  have b16 := below_then b15 hb16
  have R := own_below R hb16
  clear hb16 b15
  go_wp2_with fail
  go_ret
  exact ⟨rfl, b16⟩

set_option maxRecDepth 100000 in
theorem lifted (os : Os) (started : os.Started) (H : Type) (enc : TypeId × Value → H) :
    ReturnsInHanded {} Try.checked os 4 .any (Rows.fnExactNegateEntriesSpec.pre6 enc Try.prog Try.f4 Rows.fnExactNegateEntriesRow.domain false) (Rows.fnExactNegateEntriesSpec.post enc Try.prog Try.f4 false true false false) := by
  refine returnsInHanded_of_change (C := Try.checked) Try.own started (by kernel_rfl) Try.func4
    (ChangeSpec.witness6 (enc := enc) (C := Try.checked) false ⟨#[], #[.slice none 0 0], []⟩ 8 (by kernel_rfl) (by kernel_rfl) (by kernel_rfl) (by kernel_rfl)) ?_
  intro W base args ds gs before hval0 hW hcnd _
  have hval : ∀ (j : Nat) t v, Try.f4.params[j]? = some t → args[j]? = some v → Value.okWide Try.prog W .any base t v := hval0
  have hW' := hW
  obtain ⟨p, q, hA0, hV, rfl, hfz, hnd⟩ := hW
  have hA : DataW.TrodAll enc Try.prog W 0 (fun _ => true) true Try.f4.params.toList args.toList ds p := hA0
  rw [Try.params4] at hA hval
  obtain ⟨v0, vs0, d0, ds0, p0, q0, hargs, rfl, rfl, h0, r0⟩ := trodAll_cons hA
  obtain ⟨rfl, rfl, rfl⟩ := trodAll_nil r0
  obtain rfl : args = #[v0] := by cases args; simp_all
  obtain ⟨rfl, rfl⟩ := trodVars_none hV
  obtain ⟨Al, nl, cl, l, rfl, hrl, hnl, hokl⟩ := open_ens (hval 0 22 v0 rfl rfl) h0
  refine (walk W Al nl cl l hrl hnl hokl).mono fun e W' ⟨he, hb⟩ => ?_
  subst he
  exact ⟨_, rfl, law_post Try.laidOut (by kernel_rfl) (by kernel_rfl) Try.underlying4 hW' rfl ⟨rfl, rfl, rfl⟩ hb⟩

theorem proved : Rows.FnExactNegateEntriesSaid :=
  OpenClaim.holds_of_wide 4 Try.f4 rfl rfl rfl rfl rfl rfl rfl ⟨rfl, rfl, rfl, rfl, rfl⟩ rfl rfl rfl rfl rfl (by kernel_rfl) Try.func4 (by kernel_rfl)
    (of_decide_eq_true (by kernel_rfl)) (by unfold Func.isWrapper; first | (rw [if_pos (by decide +kernel)]; kernel_rfl) | (rw [if_neg (by decide +kernel)]; exact ⟨rfl, rfl⟩))
    (fun os started H enc _ => lifted os started H enc)
#print axioms proved
end Go.Proofs.Ytefhgilnfdmnlaa.fnExactNegateEntries
