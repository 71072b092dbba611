/- FnExactSplitPool returns true for all arguments, and leaves them as they were. No condition. -/
import Derived.Test.YtijnkofnpoapnaaSplit
import Derived.Test.YtijnkofnpoapnaaSInt
namespace Go.Proofs.Ytijnkofnpoapnaa.fnExactSplitPool
open Go.ChangeShapes Go.WideShapes Go.ChangeAt Go.RowKit

set_option maxRecDepth 100000 in
set_option maxHeartbeats 2000000 in
theorem walk (w : World) (xq xv : Int) (_hxq : i64 xq) (_hxv : i64 xv) (Al : Option Addr) (nl cl : Nat) (l : List Int) (hrl : RS w 1 Al nl (intCells l)) (hnl : nl ≤ 9223372036854775807) (_hokl : ∀ y ∈ l, i64 y) :
    Calls Try.prog 4 #[.agg #[.int .i64 xq, .int .i64 xv], .slice Al nl cl] w fun e w' => e = .returned (.bool true) ∧ Below w.heap.size w w' := by
  by_cases zl : 1048576 < nl
  · go_enter Try.func4, Try.ntmps4
    go_wp2_with fail
    go_ret
    exact ⟨rfl, below_box w _⟩
  obtain ⟨m, hm⟩ : ∃ m, (splitOut xq xv l).length = m := ⟨_, rfl⟩
  have ol : m ≤ 1048600 := by rw [← hm]; exact Nat.le_trans (splitOut_len _ _ _) (by omega)
  have HM := Lib.hid hm; clear hm
  go_enter Try.func4, Try.ntmps4
  have B0 := below_box w (Obj.cells #[.int .i64 xq, .int .i64 xv] 23)
  have BX := Lib.hid (blk_new1 w (Obj.cells #[.int .i64 xq, .int .i64 xv] 23))
  have hrl := hrl.below B0
  have hz0 : True := trivial
  have p0 := blk_at BX.out (j := 0) rfl; have p1 := blk_at BX.out (j := 1) rfl
  go_wp2_with fail
  refine (toPool_any _ _ _).mono ?_; rintro e w1 ⟨rfl, hb1⟩
  have b1 := hb1
  clear hb1
  clear p0 p1
  go_wp2_with fail
  refine (toIntS_any _ _ _ l _ (hrl.below b1) (by omega)).mono ?_; rintro e w2 ⟨A2, c2, rfl, X1, hb2⟩
  have b2 := below_then b1 hb2
  have Z_X1 := Lib.hid b1.size
  clear hb2 b1
  go_wp2_with fail
  refine (specSplit xq xv _ _ _ l _ (RS.of_own X1) (by omega)).mono ?_; rw [HM.out]; rintro e w3 ⟨A3, c3, rfl, W, hb3⟩
  have b3 := below_then b2 hb3
  have P_X1_W := Lib.hid (own_apart X1 W (Nat.le_refl _))
  have Z_W := Lib.hid b2.size
  have X1 := own_below X1 hb3
  clear hb3 b2
  clear X1
  go_wp2_with fail
  refine (toIntS_any _ _ _ l _ (hrl.below b3) (by omega)).mono ?_; rintro e w4 ⟨A4, c4, rfl, X2, hb4⟩
  have b4 := below_then b3 hb4
  have P_W_X2 := Lib.hid (own_apart W X2 (Nat.le_refl _))
  have Z_X2 := Lib.hid b3.size
  have W := own_below W hb4
  clear hb4 b3
  have p0 := blk_at (blk_keep b4 BX.out) (j := 0) rfl; have p1 := blk_at (blk_keep b4 BX.out) (j := 1) rfl
  go_wp2_with fail
  refine (toPool_any _ _ _).mono ?_; rintro e w5 ⟨rfl, hb5⟩
  have b5 := below_then b4 hb5
  have W := own_below W hb5
  have X2 := own_below X2 hb5
  clear hb5 b4
  clear p0 p1
  go_wp2_with fail
  refine (implSplit xq xv _ _ _ l _ (RS.of_own X2) (by omega)).mono ?_; rw [HM.out]; rintro e w6 ⟨A6, c6, rfl, R, hb6⟩
  have b6 := below_then b5 hb6
  have P_W_R := Lib.hid (own_apart W R (Nat.le_refl _))
  have P_X2_R := Lib.hid (own_apart X2 R (Nat.le_refl _))
  have Z_R := Lib.hid b5.size
  have W := own_below W hb6
  have X2 := own_below X2 hb6
  clear hb6 b5
  go_wp2_with fail
  refine (eqPoolS_true _ _ _ (splitOut xq xv l) _ _ _ (splitOut xq xv l) _ (RS.of_own R) (RS.of_own W) (by omega) (by omega) rfl).mono ?_; rintro e w7 ⟨rfl, hb7⟩
  have b7 := below_then b6 hb7
  have W := own_below W hb7
  have X2 := own_below X2 hb7
  have R := own_below R hb7
  clear hb7 b6
  go_wp2_with fail
  refine (toIntS_any _ _ _ l _ (hrl.below b7) (by omega)).mono ?_; rintro e w8 ⟨A8, c8, rfl, X3, hb8⟩
  have b8 := below_then b7 hb8
  have P_W_X3 := Lib.hid (own_apart W X3 (Nat.le_refl _))
  have P_X2_X3 := Lib.hid (own_apart X2 X3 (Nat.le_refl _))
  have P_R_X3 := Lib.hid (own_apart R X3 (Nat.le_refl _))
  have Z_X3 := Lib.hid b7.size
  have W := own_below W hb8
  have X2 := own_below X2 hb8
  have R := own_below R hb8
  clear hb8 b7
  go_wp2_with fail
  refine (eqIntS_true _ _ _ l _ _ _ l _ (RS.of_own X2) (RS.of_own X3) (by omega) (by omega) rfl).mono ?_; rintro e w9 ⟨rfl, hb9⟩
  have b9 := below_then b8 hb9
  have W := own_below W hb9
  have X2 := own_below X2 hb9
  have R := own_below R hb9
  have X3 := own_below X3 hb9
  clear hb9 b8
  clear X3
  go_wp2_with fail
  refine (markIntS_any _ _ _ _ _ (1) _ X2 (by omega) (by omega) (by omega)).mono ?_; rintro e w10 ⟨rfl, ⟨ys10, NX2⟩, hg10⟩
  have b10 := below_row b9 X2 hg10 Z_X2.out b9.size
  have W := row_grown W hg10 P_W_X2.out
  have R := row_grown R hg10 (apart_symm P_X2_R.out)
  clear hg10 X2 b9
  have X2 := NX2
  clear NX2
  have gk : ¬ ((1 + nl : Int) < 0) := by omega
  clear X2
  go_wp2_with fail
  refine (eqPoolS_true _ _ _ (splitOut xq xv l) _ _ _ (splitOut xq xv l) _ (RS.of_own R) (RS.of_own W) (by omega) (by omega) rfl).mono ?_; rintro e w11 ⟨rfl, hb11⟩
  have b11 := below_then b10 hb11
  have W := own_below W hb11
  have R := own_below R hb11
  clear hb11 b10
  go_wp2_with fail
  refine (markPoolS_any _ _ _ _ _ (1) _ R (by omega) (by omega) (by omega)).mono ?_; rintro e w12 ⟨rfl, NR, hg12⟩
  have b12 := below_row b11 R hg12 Z_R.out b11.size
  have W := row_grown W hg12 P_W_R.out
  clear hg12 R b11
  have R := NR
  clear NR
  go_wp2_with fail
  refine (heldPoolS_any _ _ _ (1) _ (RS.of_own R) (by omega) (by omega) (by omega)).mono ?_; rintro e w13 ⟨rfl, hb13⟩
  have b13 := below_then b12 hb13
  have W := own_below W hb13
  have R := own_below R hb13
  clear hb13 b12
  have p0 := blk_at (blk_keep b13 BX.out) (j := 0) rfl; have p1 := blk_at (blk_keep b13 BX.out) (j := 1) rfl
  go_wp2_with fail
  refine (toPool_any _ _ _).mono ?_; rintro e w14 ⟨rfl, hb14⟩
  have b14 := below_then b13 hb14
  have W := own_below W hb14
  have R := own_below R hb14
  clear hb14 b13
  clear p0 p1
  go_wp2_with fail
  refine (toIntS_any _ _ _ l _ (hrl.below b14) (by omega)).mono ?_; rintro e w15 ⟨A15, c15, rfl, X4, hb15⟩
  have b15 := below_then b14 hb15
  have P_W_X4 := Lib.hid (own_apart W X4 (Nat.le_refl _))
  have P_R_X4 := Lib.hid (own_apart R X4 (Nat.le_refl _))
  have Z_X4 := Lib.hid b14.size
  have W := own_below W hb15
  have R := own_below R hb15
  clear hb15 b14
  go_wp2_with fail
  refine (implSplit xq xv _ _ _ l _ (RS.of_own X4) (by omega)).mono ?_; rw [HM.out]; rintro e w16 ⟨A16, c16, rfl, H, hb16⟩
  have b16 := below_then b15 hb16
  have P_W_H := Lib.hid (own_apart W H (Nat.le_refl _))
  have P_R_H := Lib.hid (own_apart R H (Nat.le_refl _))
  have P_X4_H := Lib.hid (own_apart X4 H (Nat.le_refl _))
  have Z_H := Lib.hid b15.size
  have W := own_below W hb16
  have R := own_below R hb16
  have X4 := own_below X4 hb16
  clear hb16 b15
  clear X4
  go_wp2_with fail
  refine (eqPoolS_true _ _ _ (splitOut xq xv l) _ _ _ (splitOut xq xv l) _ (RS.of_own H) (RS.of_own W) (by omega) (by omega) rfl).mono ?_; rintro e w17 ⟨rfl, hb17⟩
  have b17 := below_then b16 hb17
  have W := own_below W hb17
  have R := own_below R hb17
  have H := own_below H hb17
  clear hb17 b16
  clear H
  clear W
  go_wp2_with fail
  refine (heldPoolS_any _ _ _ (1) _ (RS.of_own R) (by omega) (by omega) (by omega)).mono ?_; rintro e w18 ⟨rfl, hb18⟩
  have b18 := below_then b17 hb18
  have R := own_below R hb18
  clear hb18 b17
  go_wp2_with fail
  go_ret
  exact ⟨rfl, below_then B0 b18⟩

set_option maxRecDepth 100000 in
theorem lifted (os : Os) (started : os.Started) (H : Type) (enc : TypeId × Value → H) :
    ReturnsInHanded {} Try.checked os 4 .any (Rows.fnExactSplitPoolSpec.pre6 enc Try.prog Try.f4 Rows.fnExactSplitPoolRow.domain false) (Rows.fnExactSplitPoolSpec.post enc Try.prog Try.f4 false true false false) := by
  refine returnsInHanded_of_change (C := Try.checked) Try.own started (by kernel_rfl) Try.func4
    (ChangeSpec.witness6 (enc := enc) (C := Try.checked) false ⟨#[], #[.agg #[.int .i64 0, .int .i64 0], .slice none 0 0], []⟩ 8 (by kernel_rfl) (by kernel_rfl) (by kernel_rfl) (by kernel_rfl)) ?_
  intro W base args ds gs before hval0 hW hcnd _
  have hval : ∀ (j : Nat) t v, Try.f4.params[j]? = some t → args[j]? = some v → Value.okWide Try.prog W .any base t v := hval0
  have hW' := hW
  obtain ⟨p, q, hA0, hV, rfl, hfz, hnd⟩ := hW
  have hA : DataW.TrodAll enc Try.prog W 0 (fun _ => true) true Try.f4.params.toList args.toList ds p := hA0
  rw [Try.params4] at hA hval
  obtain ⟨v0, vs0, d0, ds0, p0, q0, hargs, rfl, rfl, h0, r0⟩ := trodAll_cons hA
  obtain ⟨v1, vs1, d1, ds1, p1, q1, rfl, rfl, rfl, h1, r1⟩ := trodAll_cons r0
  obtain ⟨rfl, rfl, rfl⟩ := trodAll_nil r1
  obtain rfl : args = #[v0, v1] := by cases args; simp_all
  obtain ⟨rfl, rfl⟩ := trodVars_none hV
  obtain ⟨xq, xv, rfl, hxq, hxv⟩ := open_pool (hval 0 23 v0 rfl rfl) h0
  obtain ⟨Al, nl, cl, l, rfl, hrl, hnl, hokl⟩ := open_intS (hval 1 31 v1 rfl rfl) h1
  refine (walk W xq xv hxq hxv Al nl cl l hrl hnl hokl).mono fun e W' ⟨he, hb⟩ => ?_
  subst he
  exact ⟨_, rfl, law_post Try.laidOut (by kernel_rfl) (by kernel_rfl) Try.underlying4 hW' rfl ⟨rfl, rfl, rfl⟩ hb⟩

theorem proved : Rows.FnExactSplitPoolSaid :=
  OpenClaim.holds_of_wide 4 Try.f4 rfl rfl rfl rfl rfl rfl rfl ⟨rfl, rfl, rfl, rfl, rfl⟩ rfl rfl rfl rfl rfl (by kernel_rfl) Try.func4 (by kernel_rfl)
    (of_decide_eq_true (by kernel_rfl)) (by unfold Func.isWrapper; first | (rw [if_pos (by decide +kernel)]; kernel_rfl) | (rw [if_neg (by decide +kernel)]; exact ⟨rfl, rfl⟩))
    (fun os started H enc _ => lifted os started H enc)
#print axioms proved
end Go.Proofs.Ytijnkofnpoapnaa.fnExactSplitPool
