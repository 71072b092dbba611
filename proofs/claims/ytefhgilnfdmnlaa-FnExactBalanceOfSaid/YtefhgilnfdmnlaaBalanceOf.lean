/- FnExactBalanceOf returns true for all arguments, and leaves them as they were. No condition. -/
import Derived.Test.YtefhgilnfdmnlaaDocA
import Derived.Test.YtefhgilnfdmnlaaDocC
import Derived.ChangeMaps5
namespace Go.Proofs.Ytefhgilnfdmnlaa.fnExactBalanceOf
open Go.ChangeShapes Go.WideShapes Go.ChangeAt Go.RowKit

set_option maxRecDepth 100000 in
set_option maxHeartbeats 2000000 in
theorem walk (w : World) (Al : Option Addr) (nl cl : Nat) (l : List Doc) (hrl : DocsR w Al nl l) (hnl : nl ≤ 9223372036854775807) (hokl : ∀ y ∈ l, docOk y) (s : ByteArray) (hs : s.size ≤ 9223372036854775807) (d : Int) (_hd : i64 d) :
    Calls Try.prog 6 #[.slice Al nl cl, .string s, .int .i64 d] w fun e w' => e = .returned (.bool true) ∧ Below w.heap.size w w' := by
  by_cases zs : 1048576 < s.size
  · go_enter Try.func6, Try.ntmps6
    go_wp2_with fail
    go_ret
    exact ⟨rfl, Below.refl _ _⟩
  by_cases zl : (1048576 : Int) < (nl + sumF docSz l nl)
  · have HZ := Lib.hid zl; clear zl
    go_enter Try.func6, Try.ntmps6
    go_wp2_with fail
    refine (szDocumentS_any _ _ _ l _ _ hrl (by omega) hokl (by omega) (by omega)).mono ?_; rw [szRes_no HZ.out]; rintro e v0 ⟨rfl, hb0⟩
    have bz0 := hb0
    go_wp2_with fail
    go_ret
    exact ⟨rfl, bz0⟩
  have nnl := sumF_nonneg (f := docSz) (l := l) (fun y _ => docSz_nonneg y) nl
  have Zl := Int.not_lt.1 zl
  clear zl
  have lel : ∀ d ∈ l, d.ents.length ≤ 1048576 := docs_small hrl.len (by have := Zl; omega)
  have ql : nl ≤ 1048576 := by have := Zl; omega
  go_enter Try.func6, Try.ntmps6
  go_wp2_with fail
  refine (szDocumentS_any _ _ _ l _ _ hrl (by omega) hokl (by omega) (by have := Zl; omega)).mono ?_; rw [szRes_yes (by have := Zl; omega)]; rintro e w1 ⟨rfl, hb1⟩
  have b1 := hb1
  clear hb1
  have hz0 : True := trivial
  go_wp2_with fail
  refine (toDocumentS_any _ _ _ l _ (hrl.below b1) (by omega) lel).mono ?_; rintro e w2 ⟨A2, c2, rfl, X1, hb2⟩
  have b2 := below_then b1 hb2
  clear hb2 b1
  go_wp2_with fail
  refine (specBalance _ _ _ l s d _ X1.read (by omega) (docs_are lel hokl)).mono ?_; rintro e w3 ⟨rfl, hb3⟩
  have b3 := below_then b2 hb3
  have X1 := X1.below hb3
  clear hb3 b2
  clear X1
  go_wp2_with fail
  refine (toDocumentS_any _ _ _ l _ (hrl.below b3) (by omega) lel).mono ?_; rintro e w4 ⟨A4, c4, rfl, X2, hb4⟩
  have b4 := below_then b3 hb4
  clear hb4 b3
  go_wp2_with fail
  refine (implBalance _ _ _ l s d _ X2.read (by omega) (docs_are lel hokl)).mono ?_; rintro e w5 ⟨rfl, hb5⟩
  have b5 := below_then b4 hb5
  have X2 := X2.below hb5
  clear hb5 b4
  go_wp2_with fail
  refine (toDocumentS_any _ _ _ l _ (hrl.below b5) (by omega) lel).mono ?_; rintro e w6 ⟨A6, c6, rfl, X3, hb6⟩
  have b6 := below_then b5 hb6
  have X2 := X2.below hb6
  clear hb6 b5
  go_wp2_with fail
  refine (eqDocumentS_true _ _ _ l _ _ _ l _ X2.read X3.read (by omega) (by omega) (fun d hd => Nat.le_trans (lel d hd) (by omega)) rfl).mono ?_; rintro e w7 ⟨rfl, hb7⟩
  have b7 := below_then b6 hb7
  have X2 := X2.below hb7
  have X3 := X3.below hb7
  clear hb7 b6
  clear X3
  go_wp2_with fail
  go_ret
  exact ⟨rfl, b7⟩

set_option maxRecDepth 100000 in
theorem lifted (os : Os) (started : os.Started) (H : Type) (enc : TypeId × Value → H) :
    ReturnsInHanded {} Try.checked os 6 .any (Rows.fnExactBalanceOfSpec.pre6 enc Try.prog Try.f6 Rows.fnExactBalanceOfRow.domain false) (Rows.fnExactBalanceOfSpec.post enc Try.prog Try.f6 false true false false) := by
  refine returnsInHanded_of_change (C := Try.checked) Try.own started (by kernel_rfl) Try.func6
    (ChangeSpec.witness6 (enc := enc) (C := Try.checked) false ⟨#[], #[.slice none 0 0, .string .empty, .int .i64 0], []⟩ 8 (by kernel_rfl) (by kernel_rfl) (by kernel_rfl) (by kernel_rfl)) ?_
  intro W base args ds gs before hval0 hW hcnd _
  have hval : ∀ (j : Nat) t v, Try.f6.params[j]? = some t → args[j]? = some v → Value.okWide Try.prog W .any base t v := hval0
  have hW' := hW
  obtain ⟨p, q, hA0, hV, rfl, hfz, hnd⟩ := hW
  have hA : DataW.TrodAll enc Try.prog W 0 (fun _ => true) true Try.f6.params.toList args.toList ds p := hA0
  rw [Try.params6] at hA hval
  obtain ⟨v0, vs0, d0, ds0, p0, q0, hargs, rfl, rfl, h0, r0⟩ := trodAll_cons hA
  obtain ⟨v1, vs1, d1, ds1, p1, q1, rfl, rfl, rfl, h1, r1⟩ := trodAll_cons r0
  obtain ⟨v2, vs2, d2, ds2, p2, q2, rfl, rfl, rfl, h2, r2⟩ := trodAll_cons r1
  obtain ⟨rfl, rfl, rfl⟩ := trodAll_nil r2
  obtain rfl : args = #[v0, v1, v2] := by cases args; simp_all
  obtain ⟨rfl, rfl⟩ := trodVars_none hV
  obtain ⟨Al, nl, cl, l, rfl, hrl, hnl, hokl⟩ := open_docs (hval 0 31 v0 rfl rfl) h0
  obtain ⟨s, rfl, rfl, rfl, ws⟩ := Go.ChangeMaps.open_string Try.underlying9 (hval 1 9 v1 rfl rfl) h1
  obtain ⟨d, rfl, rfl, rfl, wd⟩ := open_int Try.underlying3 (hval 2 3 v2 rfl rfl) h2
  refine (walk W Al nl cl l hrl hnl hokl s (by unfold maxLen at ws; omega) d (i64_of wd)).mono fun e W' ⟨he, hb⟩ => ?_
  subst he
  exact ⟨_, rfl, law_post Try.laidOut (by kernel_rfl) (by kernel_rfl) Try.underlying4 hW' rfl ⟨rfl, rfl, rfl⟩ hb⟩

theorem proved : Rows.FnExactBalanceOfSaid :=
  OpenClaim.holds_of_wide 6 Try.f6 rfl rfl rfl rfl rfl rfl rfl ⟨rfl, rfl, rfl, rfl, rfl⟩ rfl rfl rfl rfl rfl (by kernel_rfl) Try.func6 (by kernel_rfl)
    (of_decide_eq_true (by kernel_rfl)) (by unfold Func.isWrapper; first | (rw [if_pos (by decide +kernel)]; kernel_rfl) | (rw [if_neg (by decide +kernel)]; exact ⟨rfl, rfl⟩))
    (fun os started H enc _ => lifted os started H enc)
#print axioms proved
end Go.Proofs.Ytefhgilnfdmnlaa.fnExactBalanceOf
