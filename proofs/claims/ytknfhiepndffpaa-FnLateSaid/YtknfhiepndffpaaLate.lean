/- FnLate returns true for all arguments, and leaves them as they were. No condition. -/
import Derived.Test.YtknfhiepndffpaaDrawCase
import Derived.Test.YtknfhiepndffpaaLay5
import Derived.Test.YtknfhiepndffpaaLayD
namespace Go.Proofs.Ytknfhiepndffpaa.fnLate
open Go.ChangeShapes Go.WideShapes Go.ChangeAt Go.RowKit

set_option maxHeartbeats 2000000 in
theorem walk (w : World) (A : Option Addr) (n c : Nat) (bs : List Int) (hr : RS w 1 A n (byteCells bs)) (hn : n ≤ 9223372036854775807) (hok : ∀ y ∈ bs, 0 ≤ y ∧ y < 256) :
    Calls Try.prog 3 #[.slice A n c] w fun e w' => e = .returned (.bool true) ∧ Below w.heap.size w w' := by
  by_cases hbig : 1048576 < n
  · go_enter Try.func3, Try.ntmps3
    go_wp2_with (go_at_call 17; refine (big_any _ _ _ _ hn).mono ?_; rw [decide_eq_true hbig]; rintro e w' ⟨rfl, rfl⟩)
    go_ret
    exact ⟨rfl, Below.refl _ _⟩
  · go_enter Try.func3, Try.ntmps3
    go_wp2_with fail
    refine (big_any _ _ _ _ hn).mono ?_; rw [decide_eq_false hbig]; rintro e w' ⟨rfl, rfl⟩
    go_wp2_with fail
    refine (DrawAddLate_any _ _ _ _ _ hr hok (by omega)).mono ?_; rintro e w1 ⟨A1, n1, c1, l, k, a, rfl, r1, hn1, hl1, hk, ha, b1⟩
    go_wp2_with fail
    refine (implAddLate _ _ _ l k a _ r1 (by omega)).mono ?_; rintro e w2 ⟨A2, c2, rfl, o2, hb2⟩
    have rx := RS.of_own o2
    have xlen := lateOut_len l k a
    have rl := r1.below hb2
    have b2 := below_then b1 hb2
    clear r1 o2 hb2 b1
    go_wp2_with fail
    refine (specAddLate _ _ _ l k a _ rl (by omega)).mono ?_; rintro e w3 ⟨A3, c3, rfl, o3, hb3⟩
    have rl := rl.below hb3
    have rx := rx.below hb3
    have b3 := below_then b2 hb3
    clear o3 hb3 b2
    cases is : lateOk l k a
    · obtain ⟨e1, e2⟩ := late_no is
      rw [e1, e2]
      clear e1 e2 is
      go_wp2_with fail
      go_ret
      exact ⟨rfl, b3⟩
    · have L1 := law_late is
      have g1 := goneCost_bd l; have g2 := lateGone_bd l k a; have g3 := worthOf_bd l; have g4 := leftOf_bd l; have g5 := worthOf_bd (lateOut l k a)
      have IS := Lib.hid is; clear is
      generalize hX : lateOut l k a = x at *
      have HX := Lib.hid hX; clear hX
      generalize hG : lateGone l k a = gone at *
      have HG := Lib.hid hG; clear hG
      have hL1 := Lib.hid L1; clear L1
      have ha' := (lateOk_iff.1 IS.out).2.2.2
      have ha1 := ha'.1; have ha2 := ha'.2.1
      clear ha'
      go_wp2_with fail
      refine (implGoneCost _ _ _ x _ rx (by omega)).mono ?_; rw [hL1.out.1]; rintro e w4 ⟨rfl, hb4⟩
      have rl := rl.below hb4; have rx := rx.below hb4; have b4 := below_then b3 hb4; clear hb4 b3
      go_wp2_with fail
      refine (implGoneCost _ _ _ l _ rl (by omega)).mono ?_; rintro e w5 ⟨rfl, hb5⟩
      have rl := rl.below hb5; have rx := rx.below hb5; have b5 := below_then b4 hb5; clear hb5 b4
      go_wp2_with fail
      refine (implWorthOf _ _ _ x _ rx (by omega)).mono ?_; rintro e w6 ⟨rfl, hb6⟩
      have rl := rl.below hb6; have rx := rx.below hb6; have b6 := below_then b5 hb6; clear hb6 b5
      have hw := Lib.hid hL1.out.2.1
      go_wp2_with fail
      refine (implWorthOf _ _ _ l _ rl (by omega)).mono ?_; rintro e w7 ⟨rfl, hb7⟩
      have rl := rl.below hb7; have rx := rx.below hb7; have b7 := below_then b6 hb7; clear hb7 b6
      have hw' : worthOf x = worthOf l + a - gone := by have := hw.out; omega
      rw [hw'] at g5 ⊢
      clear hw'
      have t1 : worthOf l + a - gone + gone = worthOf l + a := by omega
      go_wp2_with fail
      refine (specLeftOf _ _ _ l _ rl (by omega)).mono ?_; rintro e w8 ⟨rfl, hb8⟩
      have rl := rl.below hb8; have rx := rx.below hb8; have b8 := below_then b7 hb8; clear hb8 b7
      by_cases q0 : leftOf l / 2 = 0
      · go_wp2_with fail
        go_ret
        exact ⟨rfl, b8⟩
      · obtain ⟨q, hq⟩ : ∃ q, leftOf l / 2 = q := ⟨_, rfl⟩
        have q1 : 1 ≤ q := by omega
        have q2 : q ≤ leftOf l := by omega
        have L2 := law_late_issue IS.out q1 q2
        have g6 := issueCost_bd l q; have g7 := issueCost_bd x q; have g8 := lateGone_bd (issueOut l q) k a
        rw [HX.out, HG.out] at L2
        obtain ⟨k1, k2, k3, k4, k5⟩ := L2
        have ylen := issueOut_len l q
        have wlen := issueOut_len x q
        have zlen := lateOut_len (issueOut l q) k a
        have QQ := Lib.hid hq; clear q0
        have K4 := Lib.hid k4; clear k4
        go_wp2_with fail
        rw [QQ.out]
        clear hq
        go_wp2_with fail
        refine (implIssue _ _ _ l q _ rl (by omega)).mono ?_; rw [k1]; rintro e w9 ⟨A9, c9, rfl, o9, hb9⟩
        have ry := RS.of_own o9
        have rx := rx.below hb9; have b9 := below_then b8 hb9; clear hb9 b8 o9 rl k1
        go_wp2_with fail
        refine (implAddLate _ _ _ (issueOut l q) k a _ ry (by omega)).mono ?_; rw [k2]; rintro e w10 ⟨A10, c10, rfl, o10, hb10⟩
        have rz := RS.of_own o10
        have rx := rx.below hb10; have b10 := below_then b9 hb10; clear hb10 b9 o10 ry k2
        go_wp2_with fail
        refine (implIssue _ _ _ x q _ rx (by omega)).mono ?_; rw [k3]; rintro e w11 ⟨A11, c11, rfl, o11, hb11⟩
        have rw' := RS.of_own o11
        have rz := rz.below hb11; have b11 := below_then b10 hb11; clear hb11 b10 o11 rx k3
        have k6 : issueCost l q + lateGone (issueOut l q) k a = gone + issueCost x q := k5
        clear k5
        generalize issueCost l q = a1 at *
        generalize issueCost x q = a2 at *
        generalize lateGone (issueOut l q) k a = a3 at *
        obtain rfl : a3 = gone + a2 - a1 := by omega
        clear k6
        have t1 : a1 + (gone + a2 - a1) = gone + a2 := by omega
        go_wp2_with fail
        refine (sameLayers_any _ _ _ _ _ _ _ _ _ rz rw' (by omega) (by omega) K4.out).mono ?_; rintro e w12 ⟨rfl, hb12⟩
        have b12 := below_then b11 hb12; clear hb12 b11
        go_wp2_with fail
        go_ret
        exact ⟨rfl, b12⟩
set_option maxRecDepth 100000 in
theorem lifted (os : Os) (started : os.Started) (H : Type) (enc : TypeId × Value → H) :
    ReturnsInHanded {} Try.checked os 3 .any (Rows.fnLateSpec.pre6 enc Try.prog Try.f3 Rows.fnLateRow.domain false) (Rows.fnLateSpec.post enc Try.prog Try.f3 false true false false) := by
  refine returnsInHanded_of_change (C := Try.checked) Try.own started (by kernel_rfl) Try.func3
    (ChangeSpec.witness6 (enc := enc) (C := Try.checked) false ⟨#[], #[.slice none 0 0], []⟩ 8 (by kernel_rfl) (by kernel_rfl) (by kernel_rfl) (by kernel_rfl)) ?_
  intro W base args ds gs before hval0 hW hcnd _
  have hval : ∀ (j : Nat) t v, Try.f3.params[j]? = some t → args[j]? = some v → Value.okWide Try.prog W .any base t v := hval0
  have hW' := hW
  obtain ⟨p, q, hA0, hV, rfl, hfz, hnd⟩ := hW
  have hA : DataW.TrodAll enc Try.prog W 0 (fun _ => true) true Try.f3.params.toList args.toList ds p := hA0
  rw [Try.params3] at hA hval
  obtain ⟨v0, vs0, d0, ds0, p0, q0, hargs, rfl, rfl, h0, r0⟩ := trodAll_cons hA
  obtain ⟨rfl, rfl, rfl⟩ := trodAll_nil r0
  obtain rfl : args = #[v0] := by cases args; simp_all
  obtain ⟨rfl, rfl⟩ := trodVars_none hV
  obtain ⟨Acode, ncode, ccode, code, rfl, hrcode, hncode, hokcode⟩ := open_bytes (hval 0 22 v0 rfl rfl) h0
  refine (walk W Acode ncode ccode code hrcode hncode hokcode).mono fun e W' ⟨he, hb⟩ => ?_
  subst he
  exact ⟨_, rfl, law_post Try.laidOut (by kernel_rfl) (by kernel_rfl) Try.underlying4 hW' rfl ⟨rfl, rfl, rfl⟩ hb⟩

theorem proved : Rows.FnLateSaid :=
  OpenClaim.holds_of_wide 3 Try.f3 rfl rfl rfl rfl rfl rfl rfl ⟨rfl, rfl, rfl, rfl, rfl⟩ rfl rfl rfl rfl rfl (by kernel_rfl) Try.func3 (by kernel_rfl)
    (of_decide_eq_true (by kernel_rfl)) (by unfold Func.isWrapper; first | (rw [if_pos (by decide +kernel)]; kernel_rfl) | (rw [if_neg (by decide +kernel)]; exact ⟨rfl, rfl⟩))
    (fun os started H enc _ => lifted os started H enc)
#print axioms proved
end Go.Proofs.Ytknfhiepndffpaa.fnLate
