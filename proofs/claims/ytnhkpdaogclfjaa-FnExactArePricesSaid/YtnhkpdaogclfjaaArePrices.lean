/- FnExactArePrices returns true for all arguments, and leaves them as they were. No condition. -/
import Derived.Test.YtnhkpdaogclfjaaPricesW
namespace Go.Proofs.Ytnhkpdaogclfjaa.fnExactArePrices
open Go.ChangeShapes Go.WideShapes Go.ChangeAt Go.RowKit

set_option maxRecDepth 100000 in
set_option maxHeartbeats 2000000 in
theorem walk (w : World) (Acat : Option Addr) (ncat ccat : Nat) (cat : List It) (hrcat : RS w 8 Acat ncat (cat.flatMap itCell)) (hncat : ncat ≤ 9223372036854775807) (hokcat : ∀ y ∈ cat, itOk y) (Al : Option Addr) (nl cl : Nat) (l : List Nd) (hrl : RS w 2 Al nl (l.flatMap ndCell)) (hnl : nl ≤ 9223372036854775807) (hokl : ∀ y ∈ l, ndOk y) :
    Calls Try.prog 3 #[.slice Acat ncat ccat, .slice Al nl cl] w fun e w' => e = .returned (.bool true) ∧ Below w.heap.size w w' := by
  by_cases zcat : (1048576 : Int) < (ncat + sumF itSz cat ncat)
  · have HZ := Lib.hid zcat; clear zcat
    go_enter Try.func3, Try.ntmps3
    go_wp2_with fail
    refine (szItemS_any _ _ _ cat _ _ hrcat (by omega) hokcat (by omega) (by omega)).mono ?_; rw [szRes_no HZ.out]; rintro e v0 ⟨rfl, hb0⟩
    have bz0 := hb0
    go_wp2_with fail
    go_ret
    exact ⟨rfl, bz0⟩
  have nncat := sumF_nonneg (f := itSz) (l := cat) (fun y _ => itSz_nonneg y) ncat
  have Zcat := Int.not_lt.1 zcat
  clear zcat
  by_cases zl : (1048576 - (ncat + sumF itSz cat ncat) : Int) < (nl + sumF ndSz l nl)
  · have HZ := Lib.hid zl; clear zl
    go_enter Try.func3, Try.ntmps3
    go_wp2_with fail
    refine (szItemS_any _ _ _ cat _ _ hrcat (by omega) hokcat (by omega) (by omega)).mono ?_; rw [szRes_yes (by have := Zcat; omega)]; rintro e v0 ⟨rfl, hb0⟩
    have bz0 := hb0
    go_wp2_with fail
    refine (szNeedS_any _ _ _ l _ _ (hrl.below bz0) (by omega) hokl (by omega) (by omega)).mono ?_; rw [szRes_no HZ.out]; rintro e v1 ⟨rfl, hb1⟩
    have bz1 := below_then bz0 hb1
    go_wp2_with fail
    go_ret
    exact ⟨rfl, bz1⟩
  have nnl := sumF_nonneg (f := ndSz) (l := l) (fun y _ => ndSz_nonneg y) nl
  have Zl := Int.not_lt.1 zl
  clear zl
  have qcat : ncat ≤ 1048576 := by have := Zcat; have := Zl; omega
  have ql : nl ≤ 1048576 := by have := Zcat; have := Zl; omega
  go_enter Try.func3, Try.ntmps3
  go_wp2_with fail
  refine (szItemS_any _ _ _ cat _ _ hrcat (by omega) hokcat (by omega) (by have := Zcat; omega)).mono ?_; rw [szRes_yes (by have := Zcat; omega)]; rintro e w1 ⟨rfl, hb1⟩
  have b1 := hb1
  clear hb1
  go_wp2_with fail
  refine (szNeedS_any _ _ _ l _ _ (hrl.below b1) (by omega) hokl (by omega) (by have := Zl; omega)).mono ?_; rw [szRes_yes (by have := Zl; omega)]; rintro e w2 ⟨rfl, hb2⟩
  have b2 := below_then b1 hb2
  clear hb2 b1
  have hz0 : True := trivial
  go_wp2_with fail
  refine (toItemS_any _ _ _ cat _ (hrcat.below b2) (by omega)).mono ?_; rintro e w3 ⟨A3, c3, rfl, X1, hb3⟩
  have b3 := below_then b2 hb3
  clear hb3 b2
  go_wp2_with fail
  refine (toNeedS_any _ _ _ l _ (hrl.below b3) (by omega)).mono ?_; rintro e w4 ⟨A4, c4, rfl, X2, hb4⟩
  have b4 := below_then b3 hb4
  have X1 := own_below X1 hb4
  clear hb4 b3
  go_wp2_with fail
  refine (specArePrices _ _ _ cat _ _ _ l _ (RS.of_own X1) (by omega) (RS.of_own X2) (by omega) hokcat).mono ?_; rintro e w5 ⟨rfl, hb5⟩
  have b5 := below_then b4 hb5
  have X1 := own_below X1 hb5
  have X2 := own_below X2 hb5
  clear hb5 b4
  clear X1
  clear X2
  go_wp2_with fail
  refine (toItemS_any _ _ _ cat _ (hrcat.below b5) (by omega)).mono ?_; rintro e w6 ⟨A6, c6, rfl, X3, hb6⟩
  have b6 := below_then b5 hb6
  clear hb6 b5
  go_wp2_with fail
  refine (toNeedS_any _ _ _ l _ (hrl.below b6) (by omega)).mono ?_; rintro e w7 ⟨A7, c7, rfl, X4, hb7⟩
  have b7 := below_then b6 hb7
  have X3 := own_below X3 hb7
  clear hb7 b6
  go_wp2_with fail
  refine (implArePrices _ _ _ cat _ _ _ l _ (RS.of_own X3) (by omega) (RS.of_own X4) (by omega) hokcat).mono ?_; rintro e w8 ⟨rfl, hb8⟩
  have b8 := below_then b7 hb8
  have X3 := own_below X3 hb8
  have X4 := own_below X4 hb8
  clear hb8 b7
  go_wp2_with fail
  refine (toItemS_any _ _ _ cat _ (hrcat.below b8) (by omega)).mono ?_; rintro e w9 ⟨A9, c9, rfl, X5, hb9⟩
  have b9 := below_then b8 hb9
  have X3 := own_below X3 hb9
  have X4 := own_below X4 hb9
  clear hb9 b8
  go_wp2_with fail
  refine (eqItemS_true _ _ _ cat _ _ _ cat _ (RS.of_own X3) (RS.of_own X5) (by omega) (by omega) rfl).mono ?_; rintro e w10 ⟨rfl, hb10⟩
  have b10 := below_then b9 hb10
  have X3 := own_below X3 hb10
  have X4 := own_below X4 hb10
  have X5 := own_below X5 hb10
  clear hb10 b9
  clear X5
  go_wp2_with fail
  refine (toNeedS_any _ _ _ l _ (hrl.below b10) (by omega)).mono ?_; rintro e w11 ⟨A11, c11, rfl, X6, hb11⟩
  have b11 := below_then b10 hb11
  have X3 := own_below X3 hb11
  have X4 := own_below X4 hb11
  clear hb11 b10
  go_wp2_with fail
  refine (eqNeedS_true _ _ _ l _ _ _ l _ (RS.of_own X4) (RS.of_own X6) (by omega) (by omega) rfl).mono ?_; rintro e w12 ⟨rfl, hb12⟩
  have b12 := below_then b11 hb12
  have X3 := own_below X3 hb12
  have X4 := own_below X4 hb12
  have X6 := own_below X6 hb12
  clear hb12 b11
  clear X6
  go_wp2_with fail
  go_ret
  exact ⟨rfl, b12⟩

set_option maxRecDepth 100000 in
theorem lifted (os : Os) (started : os.Started) (H : Type) (enc : TypeId × Value → H) :
    ReturnsInHanded {} Try.checked os 3 .any (Rows.fnExactArePricesSpec.pre6 enc Try.prog Try.f3 Rows.fnExactArePricesRow.domain false) (Rows.fnExactArePricesSpec.post enc Try.prog Try.f3 false true false false) := by
  refine returnsInHanded_of_change (C := Try.checked) Try.own started (by kernel_rfl) Try.func3
    (ChangeSpec.witness6 (enc := enc) (C := Try.checked) false ⟨#[], #[.slice none 0 0, .slice none 0 0], []⟩ 8 (by kernel_rfl) (by kernel_rfl) (by kernel_rfl) (by kernel_rfl)) ?_
  intro W base args ds gs before hval0 hW hcnd _
  have hval : ∀ (j : Nat) t v, Try.f3.params[j]? = some t → args[j]? = some v → Value.okWide Try.prog W .any base t v := hval0
  have hW' := hW
  obtain ⟨p, q, hA0, hV, rfl, hfz, hnd⟩ := hW
  have hA : DataW.TrodAll enc Try.prog W 0 (fun _ => true) true Try.f3.params.toList args.toList ds p := hA0
  rw [Try.params3] at hA hval
  obtain ⟨v0, vs0, d0, ds0, p0, q0, hargs, rfl, rfl, h0, r0⟩ := trodAll_cons hA
  obtain ⟨v1, vs1, d1, ds1, p1, q1, rfl, rfl, rfl, h1, r1⟩ := trodAll_cons r0
  obtain ⟨rfl, rfl, rfl⟩ := trodAll_nil r1
  obtain rfl : args = #[v0, v1] := by cases args; simp_all
  obtain ⟨rfl, rfl⟩ := trodVars_none hV
  obtain ⟨Acat, ncat, ccat, cat, rfl, hrcat, hncat, hokcat⟩ := open_its (hval 0 22 v0 rfl rfl) h0
  obtain ⟨Al, nl, cl, l, rfl, hrl, hnl, hokl⟩ := open_nds (hval 1 23 v1 rfl rfl) h1
  refine (walk W Acat ncat ccat cat hrcat hncat hokcat Al nl cl l hrl hnl hokl).mono fun e W' ⟨he, hb⟩ => ?_
  subst he
  exact ⟨_, rfl, law_post Try.laidOut (by kernel_rfl) (by kernel_rfl) Try.underlying4 hW' rfl ⟨rfl, rfl, rfl⟩ hb⟩

theorem proved : Rows.FnExactArePricesSaid :=
  OpenClaim.holds_of_wide 3 Try.f3 rfl rfl rfl rfl rfl rfl rfl ⟨rfl, rfl, rfl, rfl, rfl⟩ rfl rfl rfl rfl rfl (by kernel_rfl) Try.func3 (by kernel_rfl)
    (of_decide_eq_true (by kernel_rfl)) (by unfold Func.isWrapper; first | (rw [if_pos (by decide +kernel)]; kernel_rfl) | (rw [if_neg (by decide +kernel)]; exact ⟨rfl, rfl⟩))
    (fun os started H enc _ => lifted os started H enc)
#print axioms proved
end Go.Proofs.Ytnhkpdaogclfjaa.fnExactArePrices
