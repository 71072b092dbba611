/- FnDropped returns true for all arguments, and leaves them as they were. No condition. -/
import Derived.Test.YtknfhiepndffpaaDrawCase
import Derived.Test.YtknfhiepndffpaaLay5
import Derived.Test.YtknfhiepndffpaaLayD
namespace Go.Proofs.Ytknfhiepndffpaa.fnDropped
open Go.ChangeShapes Go.WideShapes Go.ChangeAt Go.RowKit

set_option maxHeartbeats 2000000 in
theorem walk (w : World) (A : Option Addr) (n c : Nat) (bs : List Int) (hr : RS w 1 A n (byteCells bs)) (hn : n ≤ 9223372036854775807) (hok : ∀ y ∈ bs, 0 ≤ y ∧ y < 256) :
    Calls Try.prog 13 #[.slice A n c] w fun e w' => e = .returned (.bool true) ∧ Below w.heap.size w w' := by
  by_cases hbig : 1048576 < n
  · go_enter Try.func13, Try.ntmps13
    go_wp2_with (go_at_call 17; refine (big_any _ _ _ _ hn).mono ?_; rw [decide_eq_true hbig]; rintro e w' ⟨rfl, rfl⟩)
    go_ret
    exact ⟨rfl, Below.refl _ _⟩
  · go_enter Try.func13, Try.ntmps13
    go_wp2_with fail
    refine (big_any _ _ _ _ hn).mono ?_; rw [decide_eq_false hbig]; rintro e w' ⟨rfl, rfl⟩
    go_wp2_with fail
    refine (DrawIssueLayers_any _ _ _ _ _ hr hok (by omega)).mono ?_; rintro e w1 ⟨A1, n1, c1, l, q, rfl, r1, hn1, hl1, hq, b1⟩
    go_wp2_with fail
    refine (implDrop _ _ _ l _ r1 (by omega)).mono ?_; rintro e w2 ⟨A2, c2, rfl, o2, hb2⟩
    have rd := RS.of_own o2
    have dlen := dropOut_len l
    have rl := r1.below hb2
    have b2 := below_then b1 hb2
    clear r1 o2 hb2 b1
    go_wp2_with fail
    refine (specAreLayers _ _ _ l _ rl (by omega)).mono ?_; rintro e w3 ⟨rfl, hb3⟩
    have rl := rl.below hb3
    have rd := rd.below hb3
    have b3 := below_then b2 hb3
    clear hb3 b2
    cases is : areLayers l
    · have e1 := drop_no is
      rw [e1]
      clear e1 is
      go_wp2_with fail
      go_ret
      exact ⟨rfl, b3⟩
    · obtain ⟨k1, k2, k3, k4, k5⟩ := law_drop is q
      have K2 := Lib.hid k2; clear k2
      have K3 := Lib.hid k3; clear k3
      have K4 := Lib.hid k4; clear k4
      have K5 := Lib.hid k5; clear k5
      clear is
      have yl := issueOut_len l q; have yd := issueOut_len (dropOut l) q
      go_wp2_with fail
      refine (implIssue _ _ _ l q _ rl (by omega)).mono ?_; rintro e w4 ⟨A4, c4, rfl, o4, hb4⟩
      have rl := rl.below hb4; have rd := rd.below hb4; have b4 := below_then b3 hb4; clear hb4 b3 o4
      go_wp2_with fail
      refine (implIssue _ _ _ (dropOut l) q _ rd (by omega)).mono ?_; rw [K4.out, K5.out]; rintro e w5 ⟨A5, c5, rfl, o5, hb5⟩
      have rl := rl.below hb5; have rd := rd.below hb5; have b5 := below_then b4 hb5; clear hb5 b4 o5
      go_wp2_with fail
      refine (specAreLayers _ _ _ (dropOut l) _ rd (by omega)).mono ?_; rw [k1]; rintro e w6 ⟨rfl, hb6⟩
      have rl := rl.below hb6; have rd := rd.below hb6; have b6 := below_then b5 hb6; clear hb6 b5
      go_wp2_with fail
      refine (implLeftOf _ _ _ l _ rl (by omega)).mono ?_; rintro e w7 ⟨rfl, hb7⟩
      have rl := rl.below hb7; have rd := rd.below hb7; have b7 := below_then b6 hb7; clear hb7 b6
      go_wp2_with fail
      refine (specLeftOf _ _ _ l _ rl (by omega)).mono ?_; rintro e w8 ⟨rfl, hb8⟩
      have rl := rl.below hb8; have rd := rd.below hb8; have b8 := below_then b7 hb8; clear hb8 b7
      go_wp2_with fail
      refine (implLeftOf _ _ _ (dropOut l) _ rd (by omega)).mono ?_; rw [K2.out]; rintro e w9 ⟨rfl, hb9⟩
      have rl := rl.below hb9; have rd := rd.below hb9; have b9 := below_then b8 hb9; clear hb9 b8
      go_wp2_with fail
      refine (implLeftOf _ _ _ l _ rl (by omega)).mono ?_; rintro e w10 ⟨rfl, hb10⟩
      have rl := rl.below hb10; have rd := rd.below hb10; have b10 := below_then b9 hb10; clear hb10 b9
      go_wp2_with fail
      refine (implWorthOf _ _ _ (dropOut l) _ rd (by omega)).mono ?_; rw [K3.out]; rintro e w11 ⟨rfl, hb11⟩
      have rl := rl.below hb11; have b11 := below_then b10 hb11; clear hb11 b10
      go_wp2_with fail
      refine (implWorthOf _ _ _ l _ rl (by omega)).mono ?_; rintro e w12 ⟨rfl, hb12⟩
      have b12 := below_then b11 hb12; clear hb12 b11
      go_wp2_with fail
      go_ret
      exact ⟨rfl, b12⟩
set_option maxRecDepth 100000 in
theorem lifted (os : Os) (started : os.Started) (H : Type) (enc : TypeId × Value → H) :
    ReturnsInHanded {} Try.checked os 13 .any (Rows.fnDroppedSpec.pre6 enc Try.prog Try.f13 Rows.fnDroppedRow.domain false) (Rows.fnDroppedSpec.post enc Try.prog Try.f13 false true false false) := by
  refine returnsInHanded_of_change (C := Try.checked) Try.own started (by kernel_rfl) Try.func13
    (ChangeSpec.witness6 (enc := enc) (C := Try.checked) false ⟨#[], #[.slice none 0 0], []⟩ 8 (by kernel_rfl) (by kernel_rfl) (by kernel_rfl) (by kernel_rfl)) ?_
  intro W base args ds gs before hval0 hW hcnd _
  have hval : ∀ (j : Nat) t v, Try.f13.params[j]? = some t → args[j]? = some v → Value.okWide Try.prog W .any base t v := hval0
  have hW' := hW
  obtain ⟨p, q, hA0, hV, rfl, hfz, hnd⟩ := hW
  have hA : DataW.TrodAll enc Try.prog W 0 (fun _ => true) true Try.f13.params.toList args.toList ds p := hA0
  rw [Try.params13] at hA hval
  obtain ⟨v0, vs0, d0, ds0, p0, q0, hargs, rfl, rfl, h0, r0⟩ := trodAll_cons hA
  obtain ⟨rfl, rfl, rfl⟩ := trodAll_nil r0
  obtain rfl : args = #[v0] := by cases args; simp_all
  obtain ⟨rfl, rfl⟩ := trodVars_none hV
  obtain ⟨Acode, ncode, ccode, code, rfl, hrcode, hncode, hokcode⟩ := open_bytes (hval 0 22 v0 rfl rfl) h0
  refine (walk W Acode ncode ccode code hrcode hncode hokcode).mono fun e W' ⟨he, hb⟩ => ?_
  subst he
  exact ⟨_, rfl, law_post Try.laidOut (by kernel_rfl) (by kernel_rfl) Try.underlying4 hW' rfl ⟨rfl, rfl, rfl⟩ hb⟩

theorem proved : Rows.FnDroppedSaid :=
  OpenClaim.holds_of_wide 13 Try.f13 rfl rfl rfl rfl rfl rfl rfl ⟨rfl, rfl, rfl, rfl, rfl⟩ rfl rfl rfl rfl rfl (by kernel_rfl) Try.func13 (by kernel_rfl)
    (of_decide_eq_true (by kernel_rfl)) (by unfold Func.isWrapper; first | (rw [if_pos (by decide +kernel)]; kernel_rfl) | (rw [if_neg (by decide +kernel)]; exact ⟨rfl, rfl⟩))
    (fun os started H enc _ => lifted os started H enc)
#print axioms proved
end Go.Proofs.Ytknfhiepndffpaa.fnDropped
