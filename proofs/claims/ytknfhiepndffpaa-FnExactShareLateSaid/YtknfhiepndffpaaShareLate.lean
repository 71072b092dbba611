/- FnExactShareLate returns true for all arguments, and leaves them as they were. No condition. -/
import Derived.Test.YtknfhiepndffpaaLayOpen
import Derived.Test.YtknfhiepndffpaaLayE
import Derived.Test.YtknfhiepndffpaaLayD
import Derived.Test.YtknfhiepndffpaaMore
import Derived.Test.YtknfhiepndffpaaShare
namespace Go.Proofs.Ytknfhiepndffpaa.fnExactShareLate
open Go.ChangeShapes Go.WideShapes Go.ChangeAt Go.RowKit

set_option maxHeartbeats 2000000 in
theorem walk (w : World) (A : Option Addr) (n c : Nat) (l : List Lay) (hr : RS w 3 A n (layCells l)) (hn : n ≤ 9223372036854775807) (_hok : ∀ y ∈ l, layI64 y) (a : Int) (_ha : i64 a) :
    Calls Try.prog 15 #[.slice A n c, .int .i64 a] w fun e w' => e = .returned (.bool true) ∧ Below w.heap.size w w' := by
  by_cases hs : (1048576 : Int) - n < 0
  · go_enter Try.func15, Try.ntmps15
    go_wp2_with (go_at_call 26; refine (szLayerS_any _ _ _ _ _ (by omega) (by omega) hn).mono ?_; rw [if_pos hs]; rintro e w' ⟨rfl, rfl⟩)
    go_ret
    exact ⟨rfl, Below.refl _ _⟩
  · have ol := (shOut_len l a)
    obtain ⟨m, hm⟩ : ∃ m, (shOut l a).length = m := ⟨_, rfl⟩
    rw [hm] at ol
    have HM := Lib.hid hm; clear hm
    have g3 : ¬ ((1 : Int) + n * 3 < 0) := by omega
    have g4 : ¬ ((1 : Int) + m * 3 < 0) := by omega
    go_enter Try.func15, Try.ntmps15
    go_wp2_with (go_at_call 26; refine (szLayerS_any _ _ _ _ _ (by omega) (by omega) hn).mono ?_; rw [if_neg hs]; rintro e w' ⟨rfl, rfl⟩)
    refine (toLayerS_any _ _ _ l _ hr (by omega)).mono ?_; rintro e w1 ⟨A1, c1, rfl, ho1, hb1⟩
    go_wp2_with fail
    refine (specShareLate _ _ _ l a _ (RS.of_own ho1) (by omega)).mono ?_; rw [HM.out]; rintro e w2 ⟨A2, c2, rfl, R0, hb2⟩
    have b2 := below_then hb1 hb2
    have z1 := hb1.size; have z2 := b2.size
    have R0 := own_base R0 z1
    clear ho1 hb1 hb2
    go_wp2_with fail
    refine (toLayerS_any _ _ _ l _ (hr.below b2) (by omega)).mono ?_; rintro e w3 ⟨A3, c3, rfl, R1, hb3⟩
    have P01 := Lib.hid (own_apart R0 R1 (Nat.le_refl _))
    have z3 := hb3.size
    have b3 := below_then b2 hb3
    have R0 := own_below R0 hb3
    clear hb3 b2
    go_wp2_with fail
    refine (implShareLate _ _ _ l a _ (RS.of_own R1) (by omega)).mono ?_; rw [HM.out]; rintro e w4 ⟨A4, c4, rfl, R2, hb4⟩
    have P12 := Lib.hid (own_apart R1 R2 (Nat.le_refl _))
    have P02 := Lib.hid (own_apart R0 R2 (Nat.le_refl _))
    have z4 := hb4.size
    have b4 := below_then b3 hb4
    have R0 := own_below R0 hb4; have R1 := own_below R1 hb4
    clear hb4 b3
    go_wp2_with fail
    refine (eqLayerS_any _ _ _ (shOut l a) _ _ _ (shOut l a) _ (RS.of_own R2) (RS.of_own R0) (by omega) (by omega)).mono ?_; rw [decide_eq_true (rfl : (shOut l a) = (shOut l a))]; rintro e w5 ⟨rfl, hb5⟩
    have z5 := hb5.size
    have b5 := below_then b4 hb5
    have R0 := own_below R0 hb5; have R1 := own_below R1 hb5; have R2 := own_below R2 hb5
    clear hb5 b4
    go_wp2_with fail
    refine (toLayerS_any _ _ _ l _ (hr.below b5) (by omega)).mono ?_; rintro e w6 ⟨A6, c6, rfl, R3, hb6⟩
    have b6 := below_then b5 hb6
    have R0 := own_below R0 hb6; have R1 := own_below R1 hb6; have R2 := own_below R2 hb6
    clear hb6 b5
    go_wp2_with fail
    refine (eqLayerS_any _ _ _ l _ _ _ l _ (RS.of_own R1) (RS.of_own R3) (by omega) (by omega)).mono ?_; rw [decide_eq_true (rfl : l = l)]; rintro e w7 ⟨rfl, hb7⟩
    have b7 := below_then b6 hb7
    have R0 := own_below R0 hb7; have R1 := own_below R1 hb7; have R2 := own_below R2 hb7
    clear hb7 b6 R3
    go_wp2_with fail
    refine (markLayerS_any _ _ _ _ _ 1 _ R1 (by omega) (by omega) (by omega)).mono ?_; rintro e w8 ⟨rfl, -, hg8⟩
    have b8 := below_row b7 R1 hg8 (by omega) b7.size
    have R0 := row_grown R0 hg8 P01.out; have R2 := row_grown R2 hg8 (apart_symm P12.out)
    clear hg8 R1 b7
    go_wp2_with fail
    refine (eqLayerS_any _ _ _ (shOut l a) _ _ _ (shOut l a) _ (RS.of_own R2) (RS.of_own R0) (by omega) (by omega)).mono ?_; rw [decide_eq_true (rfl : (shOut l a) = (shOut l a))]; rintro e w9 ⟨rfl, hb9⟩
    have b9 := below_then b8 hb9
    have R0 := own_below R0 hb9; have R2 := own_below R2 hb9
    clear hb9 b8
    go_wp2_with fail
    refine (markLayerS_any _ _ _ _ _ 1 _ R2 (by omega) (by omega) (by omega)).mono ?_; rintro e w10 ⟨rfl, R2', hg10⟩
    have b10 := below_row b9 R2 hg10 (by omega) b9.size
    have R0 := row_grown R0 hg10 P02.out
    clear hg10 R2 b9
    go_wp2_with fail
    refine (heldLayerS_any _ _ _ 1 _ (RS.of_own R2') (by omega) (by omega) (by omega)).mono ?_; rintro e w11 ⟨rfl, hb11⟩
    have b11 := below_then b10 hb11
    have R0 := own_below R0 hb11; have R2 := own_below R2' hb11
    clear hb11 b10 R2'
    go_wp2_with fail
    refine (toLayerS_any _ _ _ l _ (hr.below b11) (by omega)).mono ?_; rintro e w12 ⟨A12, c12, rfl, R4, hb12⟩
    have b12 := below_then b11 hb12
    have R0 := own_below R0 hb12; have R2 := own_below R2 hb12
    clear hb12 b11
    go_wp2_with fail
    refine (implShareLate _ _ _ l a _ (RS.of_own R4) (by omega)).mono ?_; rw [HM.out]; rintro e w13 ⟨A13, c13, rfl, R5, hb13⟩
    have b13 := below_then b12 hb13
    have R0 := own_below R0 hb13; have R2 := own_below R2 hb13
    clear hb13 b12 R4
    go_wp2_with fail
    refine (eqLayerS_any _ _ _ (shOut l a) _ _ _ (shOut l a) _ (RS.of_own R5) (RS.of_own R0) (by omega) (by omega)).mono ?_; rw [decide_eq_true (rfl : (shOut l a) = (shOut l a))]; rintro e w14 ⟨rfl, hb14⟩
    have b14 := below_then b13 hb14
    have R2 := own_below R2 hb14
    clear hb14 b13 R0 R5
    go_wp2_with fail
    refine (heldLayerS_any _ _ _ 1 _ (RS.of_own R2) (by omega) (by omega) (by omega)).mono ?_; rintro e w15 ⟨rfl, hb15⟩
    have b15 := below_then b14 hb15
    go_wp2_with fail
    go_ret
    exact ⟨rfl, b15⟩

set_option maxRecDepth 100000 in
theorem lifted (os : Os) (started : os.Started) (H : Type) (enc : TypeId × Value → H) :
    ReturnsInHanded {} Try.checked os 15 .any (Rows.fnExactShareLateSpec.pre6 enc Try.prog Try.f15 Rows.fnExactShareLateRow.domain false) (Rows.fnExactShareLateSpec.post enc Try.prog Try.f15 false true false false) := by
  refine returnsInHanded_of_change (C := Try.checked) Try.own started (by kernel_rfl) Try.func15
    (ChangeSpec.witness6 (enc := enc) (C := Try.checked) false ⟨#[], #[.slice none 0 0, .int .i64 0], []⟩ 8 (by kernel_rfl) (by kernel_rfl) (by kernel_rfl) (by kernel_rfl)) ?_
  intro W base args ds gs before hval0 hW hcnd _
  have hval : ∀ (j : Nat) t v, Try.f15.params[j]? = some t → args[j]? = some v → Value.okWide Try.prog W .any base t v := hval0
  have hW' := hW
  obtain ⟨p, q, hA0, hV, rfl, hfz, hnd⟩ := hW
  have hA : DataW.TrodAll enc Try.prog W 0 (fun _ => true) true Try.f15.params.toList args.toList ds p := hA0
  rw [Try.params15] at hA hval
  obtain ⟨v0, vs0, d0, ds0, p0, q0, hargs, rfl, rfl, h0, r0⟩ := trodAll_cons hA
  obtain ⟨v1, vs1, d1, ds1, p1, q1, rfl, rfl, rfl, h1, r1⟩ := trodAll_cons r0
  obtain ⟨rfl, rfl, rfl⟩ := trodAll_nil r1
  obtain rfl : args = #[v0, v1] := by cases args; simp_all
  obtain ⟨rfl, rfl⟩ := trodVars_none hV
  obtain ⟨Al, nl, cl, l, rfl, hrl, hnl, hokl⟩ := open_lays (hval 0 32 v0 rfl rfl) h0
  obtain ⟨a, rfl, rfl, rfl, wa⟩ := open_int Try.underlying3 (hval 1 3 v1 rfl rfl) h1
  refine (walk W Al nl cl l hrl hnl hokl a (i64_of wa)).mono fun e W' ⟨he, hb⟩ => ?_
  subst he
  exact ⟨_, rfl, law_post Try.laidOut (by kernel_rfl) (by kernel_rfl) Try.underlying4 hW' rfl ⟨rfl, rfl, rfl⟩ hb⟩

theorem proved : Rows.FnExactShareLateSaid :=
  OpenClaim.holds_of_wide 15 Try.f15 rfl rfl rfl rfl rfl rfl rfl ⟨rfl, rfl, rfl, rfl, rfl⟩ rfl rfl rfl rfl rfl (by kernel_rfl) Try.func15 (by kernel_rfl)
    (of_decide_eq_true (by kernel_rfl)) (by unfold Func.isWrapper; first | (rw [if_pos (by decide +kernel)]; kernel_rfl) | (rw [if_neg (by decide +kernel)]; exact ⟨rfl, rfl⟩))
    (fun os started H enc _ => lifted os started H enc)
#print axioms proved
end Go.Proofs.Ytknfhiepndffpaa.fnExactShareLate
