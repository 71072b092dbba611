/- FnExactStandardCost returns true for all arguments, and leaves them as they were. No condition. -/
import Derived.Test.YtnhkpdaogclfjaaBillA
import Derived.Test.YtnhkpdaogclfjaaStdW
import Derived.Test.YtnhkpdaogclfjaaStdSW
import Derived.ChangeMaps5
namespace Go.Proofs.Ytnhkpdaogclfjaa.fnExactStandardCost
open Go.ChangeShapes Go.WideShapes Go.ChangeAt Go.RowKit

set_option maxRecDepth 100000 in
set_option maxHeartbeats 4000000 in
theorem walk (w : World) (Acat : Option Addr) (ncat ccat : Nat) (cat : List It) (hrcat : RS w 8 Acat ncat (cat.flatMap itCell)) (hncat : ncat ≤ 9223372036854775807) (hokcat : ∀ y ∈ cat, itOk y) (Al : Option Addr) (nl cl : Nat) (l : List Bl) (hrl : BillsR w Al nl l) (hnl : nl ≤ 9223372036854775807) (hokl : ∀ y ∈ l, billOk y) (Apr : Option Addr) (npr cpr : Nat) (pr : List Nd) (hrpr : RS w 2 Apr npr (pr.flatMap ndCell)) (hnpr : npr ≤ 9223372036854775807) (hokpr : ∀ y ∈ pr, ndOk y) (s : ByteArray) (hs : s.size ≤ 9223372036854775807) (day : Int) (_hday : i64 day) (Ach : Option Addr) (nch cch : Nat) (ch : List Pk) (hrch : RS w 2 Ach nch (ch.flatMap pkCell)) (hnch : nch ≤ 9223372036854775807) (hokch : ∀ y ∈ ch, pkOk y) :
    Calls Try.prog 4 #[.slice Acat ncat ccat, .slice Al nl cl, .slice Apr npr cpr, .string s, .int .i64 day, .slice Ach nch cch] w fun e w' => e = .returned (.bool true) ∧ Below w.heap.size w w' := by
  by_cases zs : 1048576 < s.size
  · go_enter Try.func4, Try.ntmps4
    go_wp2_with fail
    go_ret
    exact ⟨rfl, Below.refl _ _⟩
  by_cases zcat : (1048576 : Int) < (ncat + sumF itSz cat ncat)
  · have HZ := Lib.hid zcat; clear zcat
    go_enter Try.func4, Try.ntmps4
    go_wp2_with fail
    refine (szItemS_any _ _ _ cat _ _ hrcat (by omega) hokcat (by omega) (by omega)).mono ?_; rw [szRes_no HZ.out]; rintro e v0 ⟨rfl, hb0⟩
    have bz0 := hb0
    go_wp2_with fail
    go_ret
    exact ⟨rfl, bz0⟩
  have nncat := sumF_nonneg (f := itSz) (l := cat) (fun y _ => itSz_nonneg y) ncat
  have Zcat := Int.not_lt.1 zcat
  clear zcat
  by_cases zl : (1048576 - (ncat + sumF itSz cat ncat) : Int) < (nl + sumF blSz l nl)
  · have HZ := Lib.hid zl; clear zl
    go_enter Try.func4, Try.ntmps4
    go_wp2_with fail
    refine (szItemS_any _ _ _ cat _ _ hrcat (by omega) hokcat (by omega) (by have := Zcat; omega)).mono ?_; rw [szRes_yes (by have := Zcat; omega)]; rintro e v0 ⟨rfl, hb0⟩
    have bz0 := hb0
    go_wp2_with fail
    refine (szBillLineS_any _ _ _ l _ _ (hrl.below bz0) (by omega) hokl (by omega) (by omega)).mono ?_; rw [szRes_no HZ.out]; rintro e v1 ⟨rfl, hb1⟩
    have bz1 := below_then bz0 hb1
    go_wp2_with fail
    go_ret
    exact ⟨rfl, bz1⟩
  have nnl := sumF_nonneg (f := blSz) (l := l) (fun y _ => blSz_nonneg y) nl
  have Zl := Int.not_lt.1 zl
  clear zl
  by_cases zpr : (1048576 - (ncat + sumF itSz cat ncat) - (nl + sumF blSz l nl) : Int) < (npr + sumF ndSz pr npr)
  · have HZ := Lib.hid zpr; clear zpr
    go_enter Try.func4, Try.ntmps4
    go_wp2_with fail
    refine (szItemS_any _ _ _ cat _ _ hrcat (by omega) hokcat (by omega) (by have := Zcat; omega)).mono ?_; rw [szRes_yes (by have := Zcat; omega)]; rintro e v0 ⟨rfl, hb0⟩
    have bz0 := hb0
    go_wp2_with fail
    refine (szBillLineS_any _ _ _ l _ _ (hrl.below bz0) (by omega) hokl (by omega) (by have := Zl; omega)).mono ?_; rw [szRes_yes (by have := Zl; omega)]; rintro e v1 ⟨rfl, hb1⟩
    have bz1 := below_then bz0 hb1
    go_wp2_with fail
    refine (szNeedS_any _ _ _ pr _ _ (hrpr.below bz1) (by omega) hokpr (by omega) (by omega)).mono ?_; rw [szRes_no HZ.out]; rintro e v2 ⟨rfl, hb2⟩
    have bz2 := below_then bz1 hb2
    go_wp2_with fail
    go_ret
    exact ⟨rfl, bz2⟩
  have nnpr := sumF_nonneg (f := ndSz) (l := pr) (fun y _ => ndSz_nonneg y) npr
  have Zpr := Int.not_lt.1 zpr
  clear zpr
  by_cases zch : (1048576 - (ncat + sumF itSz cat ncat) - (nl + sumF blSz l nl) - (npr + sumF ndSz pr npr) : Int) < (nch + sumF pkSz ch nch)
  · have HZ := Lib.hid zch; clear zch
    go_enter Try.func4, Try.ntmps4
    go_wp2_with fail
    refine (szItemS_any _ _ _ cat _ _ hrcat (by omega) hokcat (by omega) (by have := Zcat; omega)).mono ?_; rw [szRes_yes (by have := Zcat; omega)]; rintro e v0 ⟨rfl, hb0⟩
    have bz0 := hb0
    go_wp2_with fail
    refine (szBillLineS_any _ _ _ l _ _ (hrl.below bz0) (by omega) hokl (by omega) (by have := Zl; omega)).mono ?_; rw [szRes_yes (by have := Zl; omega)]; rintro e v1 ⟨rfl, hb1⟩
    have bz1 := below_then bz0 hb1
    go_wp2_with fail
    refine (szNeedS_any _ _ _ pr _ _ (hrpr.below bz1) (by omega) hokpr (by omega) (by have := Zpr; omega)).mono ?_; rw [szRes_yes (by have := Zpr; omega)]; rintro e v2 ⟨rfl, hb2⟩
    have bz2 := below_then bz1 hb2
    go_wp2_with fail
    refine (szPickS_any _ _ _ ch _ _ (hrch.below bz2) (by omega) hokch (by omega) (by omega)).mono ?_; rw [szRes_no HZ.out]; rintro e v3 ⟨rfl, hb3⟩
    have bz3 := below_then bz2 hb3
    go_wp2_with fail
    go_ret
    exact ⟨rfl, bz3⟩
  have nnch := sumF_nonneg (f := pkSz) (l := ch) (fun y _ => pkSz_nonneg y) nch
  have Zch := Int.not_lt.1 zch
  clear zch
  have qcat : ncat ≤ 1048576 := by have := Zcat; have := Zl; have := Zpr; have := Zch; omega
  have ql : nl ≤ 1048576 := by have := Zcat; have := Zl; have := Zpr; have := Zch; omega
  have qpr : npr ≤ 1048576 := by have := Zcat; have := Zl; have := Zpr; have := Zch; omega
  have qch : nch ≤ 1048576 := by have := Zcat; have := Zl; have := Zpr; have := Zch; omega
  have lel : ∀ d ∈ l, d.cond.length ≤ 1048576 := bills_small hrl.len (by have := Zcat; have := Zl; have := Zpr; have := Zch; omega)
  obtain ⟨N0, hN0⟩ : ∃ N, stdN cat l pr s day ch = N := ⟨_, rfl⟩
  obtain ⟨B0, hB0⟩ : ∃ B, stdB cat l pr s day ch = B := ⟨_, rfl⟩
  have HN := Lib.hid hN0; have HB := Lib.hid hB0; clear hN0 hB0
  go_enter Try.func4, Try.ntmps4
  go_wp2_with fail
  refine (szItemS_any _ _ _ cat _ _ hrcat (by omega) hokcat (by omega) (by have := Zcat; omega)).mono ?_; rw [szRes_yes (by have := Zcat; omega)]; rintro e v0 ⟨rfl, hb0⟩
  have bz0 := hb0
  go_wp2_with fail
  refine (szBillLineS_any _ _ _ l _ _ (hrl.below bz0) (by omega) hokl (by omega) (by have := Zl; omega)).mono ?_; rw [szRes_yes (by have := Zl; omega)]; rintro e v1 ⟨rfl, hb1⟩
  have bz1 := below_then bz0 hb1
  go_wp2_with fail
  refine (szNeedS_any _ _ _ pr _ _ (hrpr.below bz1) (by omega) hokpr (by omega) (by have := Zpr; omega)).mono ?_; rw [szRes_yes (by have := Zpr; omega)]; rintro e v2 ⟨rfl, hb2⟩
  have bz2 := below_then bz1 hb2
  go_wp2_with fail
  refine (szPickS_any _ _ _ ch _ _ (hrch.below bz2) (by omega) hokch (by omega) (by have := Zch; omega)).mono ?_; rw [szRes_yes (by have := Zch; omega)]; rintro e v3 ⟨rfl, hb3⟩
  have bz3 := below_then bz2 hb3
  have b0 := bz3
  clear hb0 hb1 hb2 hb3 bz0 bz1 bz2 bz3
  go_wp2_with fail
  refine (toItemS_any _ _ _ cat _ (hrcat.below b0) (by omega)).mono ?_; rintro e w1 ⟨A1, c1, rfl, X1, hb1⟩
  have b1 := below_then b0 hb1
  clear hb1 b0
  have X1 := RS.of_own X1
  clear nncat nnl nnpr nnch Zcat Zl Zpr Zch
  go_wp2_with fail
  refine (toBillLineS_any _ _ _ l _ (hrl.below b1) (by omega) lel).mono ?_; rintro e w2 ⟨A2, c2, rfl, X2, hb2⟩
  have X1 := X1.below hb2
  have b2 := below_then b1 hb2
  clear hb2 b1
  have X2 := X2.read
  go_wp2_with fail
  refine (toNeedS_any _ _ _ pr _ (hrpr.below b2) (by omega)).mono ?_; rintro e w3 ⟨A3, c3, rfl, X3, hb3⟩
  have X1 := X1.below hb3
  have X2 := X2.below hb3
  have b3 := below_then b2 hb3
  clear hb3 b2
  have X3 := RS.of_own X3
  go_wp2_with fail
  refine (toPickS_any _ _ _ ch _ (hrch.below b3) (by omega)).mono ?_; rintro e w4 ⟨A4, c4, rfl, X4, hb4⟩
  have X1 := X1.below hb4
  have X2 := X2.below hb4
  have X3 := X3.below hb4
  have b4 := below_then b3 hb4
  clear hb4 b3
  have X4 := RS.of_own X4
  go_wp2_with fail
  refine (specStd _ _ _ cat _ _ _ l _ _ _ pr s day _ _ _ ch _ X1 (by omega) hokcat X2 (by omega) hokl X3 (by omega) X4 (by omega)).mono ?_; rw [HN.out, HB.out]; rintro e w5 ⟨rfl, hb5⟩
  have X1 := X1.below hb5
  have X2 := X2.below hb5
  have X3 := X3.below hb5
  have X4 := X4.below hb5
  have b5 := below_then b4 hb5
  clear hb5 b4
  clear X1 X2 X3 X4
  go_wp2_with fail
  refine (toItemS_any _ _ _ cat _ (hrcat.below b5) (by omega)).mono ?_; rintro e w6 ⟨A6, c6, rfl, X5, hb6⟩
  have b6 := below_then b5 hb6
  clear hb6 b5
  have X5 := RS.of_own X5
  go_wp2_with fail
  refine (toBillLineS_any _ _ _ l _ (hrl.below b6) (by omega) lel).mono ?_; rintro e w7 ⟨A7, c7, rfl, X6, hb7⟩
  have X5 := X5.below hb7
  have b7 := below_then b6 hb7
  clear hb7 b6
  have X6 := X6.read
  go_wp2_with fail
  refine (toNeedS_any _ _ _ pr _ (hrpr.below b7) (by omega)).mono ?_; rintro e w8 ⟨A8, c8, rfl, X7, hb8⟩
  have X5 := X5.below hb8
  have X6 := X6.below hb8
  have b8 := below_then b7 hb8
  clear hb8 b7
  have X7 := RS.of_own X7
  go_wp2_with fail
  refine (toPickS_any _ _ _ ch _ (hrch.below b8) (by omega)).mono ?_; rintro e w9 ⟨A9, c9, rfl, X8, hb9⟩
  have X5 := X5.below hb9
  have X6 := X6.below hb9
  have X7 := X7.below hb9
  have b9 := below_then b8 hb9
  clear hb9 b8
  have X8 := RS.of_own X8
  go_wp2_with fail
  refine (implStd _ _ _ cat _ _ _ l _ _ _ pr s day _ _ _ ch _ X5 (by omega) hokcat X6 (by omega) hokl X7 (by omega) X8 (by omega)).mono ?_; rw [HN.out, HB.out]; rintro e w10 ⟨rfl, hb10⟩
  have X5 := X5.below hb10
  have X6 := X6.below hb10
  have X7 := X7.below hb10
  have X8 := X8.below hb10
  have b10 := below_then b9 hb10
  clear hb10 b9
  go_wp2_with fail
  refine (toItemS_any _ _ _ cat _ (hrcat.below b10) (by omega)).mono ?_; rintro e w11 ⟨A11, c11, rfl, X9, hb11⟩
  have X5 := X5.below hb11
  have X6 := X6.below hb11
  have X7 := X7.below hb11
  have X8 := X8.below hb11
  have b11 := below_then b10 hb11
  clear hb11 b10
  have X9 := RS.of_own X9
  go_wp2_with fail
  refine (eqItemS_true _ _ _ cat _ _ _ cat _ X5 X9 (by omega) (by omega) rfl).mono ?_; rintro e w12 ⟨rfl, hb12⟩
  have X5 := X5.below hb12
  have X6 := X6.below hb12
  have X7 := X7.below hb12
  have X8 := X8.below hb12
  have X9 := X9.below hb12
  have b12 := below_then b11 hb12
  clear hb12 b11
  clear X9 X5
  go_wp2_with fail
  refine (toBillLineS_any _ _ _ l _ (hrl.below b12) (by omega) lel).mono ?_; rintro e w13 ⟨A13, c13, rfl, X10, hb13⟩
  have X6 := X6.below hb13
  have X7 := X7.below hb13
  have X8 := X8.below hb13
  have b13 := below_then b12 hb13
  clear hb13 b12
  have X10 := X10.read
  go_wp2_with fail
  refine (eqBillLineS_true _ _ _ l _ _ _ _ X6 X10 (by omega) (fun d hd => Nat.le_trans (lel d hd) (by omega))).mono ?_; rintro e w14 ⟨rfl, hb14⟩
  have X6 := X6.below hb14
  have X7 := X7.below hb14
  have X8 := X8.below hb14
  have X10 := X10.below hb14
  have b14 := below_then b13 hb14
  clear hb14 b13
  clear X10 X6
  go_wp2_with fail
  refine (toNeedS_any _ _ _ pr _ (hrpr.below b14) (by omega)).mono ?_; rintro e w15 ⟨A15, c15, rfl, X11, hb15⟩
  have X7 := X7.below hb15
  have X8 := X8.below hb15
  have b15 := below_then b14 hb15
  clear hb15 b14
  have X11 := RS.of_own X11
  go_wp2_with fail
  refine (eqNeedS_true _ _ _ pr _ _ _ pr _ X7 X11 (by omega) (by omega) rfl).mono ?_; rintro e w16 ⟨rfl, hb16⟩
  have X7 := X7.below hb16
  have X8 := X8.below hb16
  have X11 := X11.below hb16
  have b16 := below_then b15 hb16
  clear hb16 b15
  clear X11 X7
  go_wp2_with fail
  refine (toPickS_any _ _ _ ch _ (hrch.below b16) (by omega)).mono ?_; rintro e w17 ⟨A17, c17, rfl, X12, hb17⟩
  have X8 := X8.below hb17
  have b17 := below_then b16 hb17
  clear hb17 b16
  have X12 := RS.of_own X12
  go_wp2_with fail
  refine (eqPickS_true _ _ _ ch _ _ _ ch _ X8 X12 (by omega) (by omega) rfl).mono ?_; rintro e w18 ⟨rfl, hb18⟩
  have X8 := X8.below hb18
  have X12 := X12.below hb18
  have b18 := below_then b17 hb18
  clear hb18 b17
  clear X12 X8
  go_wp2_with fail
  go_ret
  exact ⟨rfl, b18⟩

set_option maxRecDepth 100000 in
theorem lifted (os : Os) (started : os.Started) (H : Type) (enc : TypeId × Value → H) :
    ReturnsInHanded {} Try.checked os 4 .any (Rows.fnExactStandardCostSpec.pre6 enc Try.prog Try.f4 Rows.fnExactStandardCostRow.domain false) (Rows.fnExactStandardCostSpec.post enc Try.prog Try.f4 false true false false) := by
  refine returnsInHanded_of_change (C := Try.checked) Try.own started (by kernel_rfl) Try.func4
    (ChangeSpec.witness6 (enc := enc) (C := Try.checked) false ⟨#[], #[.slice none 0 0, .slice none 0 0, .slice none 0 0, .string .empty, .int .i64 0, .slice none 0 0], []⟩ 8 (by kernel_rfl) (by kernel_rfl) (by kernel_rfl) (by kernel_rfl)) ?_
  intro W base args ds gs before hval0 hW hcnd _
  have hval : ∀ (j : Nat) t v, Try.f4.params[j]? = some t → args[j]? = some v → Value.okWide Try.prog W .any base t v := hval0
  have hW' := hW
  obtain ⟨p, q, hA0, hV, rfl, hfz, hnd⟩ := hW
  have hA : DataW.TrodAll enc Try.prog W 0 (fun _ => true) true Try.f4.params.toList args.toList ds p := hA0
  rw [Try.params4] at hA hval
  obtain ⟨v0, vs0, d0, ds0, p0, q0, hargs, rfl, rfl, h0, r0⟩ := trodAll_cons hA
  obtain ⟨v1, vs1, d1, ds1, p1, q1, rfl, rfl, rfl, h1, r1⟩ := trodAll_cons r0
  obtain ⟨v2, vs2, d2, ds2, p2, q2, rfl, rfl, rfl, h2, r2⟩ := trodAll_cons r1
  obtain ⟨v3, vs3, d3, ds3, p3, q3, rfl, rfl, rfl, h3, r3⟩ := trodAll_cons r2
  obtain ⟨v4, vs4, d4, ds4, p4, q4, rfl, rfl, rfl, h4, r4⟩ := trodAll_cons r3
  obtain ⟨v5, vs5, d5, ds5, p5, q5, rfl, rfl, rfl, h5, r5⟩ := trodAll_cons r4
  obtain ⟨rfl, rfl, rfl⟩ := trodAll_nil r5
  obtain rfl : args = #[v0, v1, v2, v3, v4, v5] := by cases args; simp_all
  obtain ⟨rfl, rfl⟩ := trodVars_none hV
  obtain ⟨Acat, ncat, ccat, cat, rfl, hrcat, hncat, hokcat⟩ := open_its (hval 0 22 v0 rfl rfl) h0
  obtain ⟨Al, nl, cl, l, rfl, hrl, hnl, hokl⟩ := open_bills (hval 1 34 v1 rfl rfl) h1
  obtain ⟨Apr, npr, cpr, pr, rfl, hrpr, hnpr, hokpr⟩ := open_nds (hval 2 23 v2 rfl rfl) h2
  obtain ⟨s, rfl, rfl, rfl, ws⟩ := Go.ChangeMaps.open_string Try.underlying9 (hval 3 9 v3 rfl rfl) h3
  obtain ⟨day, rfl, rfl, rfl, wday⟩ := open_int Try.underlying3 (hval 4 3 v4 rfl rfl) h4
  obtain ⟨Ach, nch, cch, ch, rfl, hrch, hnch, hokch⟩ := open_pks (hval 5 35 v5 rfl rfl) h5
  refine (walk W Acat ncat ccat cat hrcat hncat hokcat Al nl cl l hrl hnl hokl Apr npr cpr pr hrpr hnpr hokpr s (by unfold maxLen at ws; omega) day (i64_of wday) Ach nch cch ch hrch hnch hokch).mono fun e W' ⟨he, hb⟩ => ?_
  subst he
  exact ⟨_, rfl, law_post Try.laidOut (by kernel_rfl) (by kernel_rfl) Try.underlying4 hW' rfl ⟨rfl, rfl, rfl⟩ hb⟩

theorem proved : Rows.FnExactStandardCostSaid :=
  OpenClaim.holds_of_wide 4 Try.f4 rfl rfl rfl rfl rfl rfl rfl ⟨rfl, rfl, rfl, rfl, rfl⟩ rfl rfl rfl rfl rfl (by kernel_rfl) Try.func4 (by kernel_rfl)
    (of_decide_eq_true (by kernel_rfl)) (by unfold Func.isWrapper; first | (rw [if_pos (by decide +kernel)]; kernel_rfl) | (rw [if_neg (by decide +kernel)]; exact ⟨rfl, rfl⟩))
    (fun os started H enc _ => lifted os started H enc)
#print axioms proved
end Go.Proofs.Ytnhkpdaogclfjaa.fnExactStandardCost
