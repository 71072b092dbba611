/- FnLayers returns true for all arguments, and leaves them as they were. No condition. -/
import Derived.Test.YtknfhiepndffpaaDrawCase
import Derived.Test.YtknfhiepndffpaaLay5
import Derived.Test.YtknfhiepndffpaaLayD
import Derived.Test.YtknfhiepndffpaaLayG
namespace Go.Proofs.Ytknfhiepndffpaa.fnLayers
open Go.ChangeShapes Go.WideShapes Go.ChangeAt Go.RowKit

theorem val_bd {l : List Lay} (h : areLayers l = true) : ∀ x ∈ l, 0 ≤ x.v ∧ x.v ≤ 1000000000 := fun x hx => by have := areLayers_mem h hx; omega
theorem val_all (l : List Lay) : sumTo (fun x => x.v) l l.length = valS l := by rw [sumTo, List.take_length]; rfl

set_option maxHeartbeats 4000000 in
theorem walk (w : World) (A : Option Addr) (n c : Nat) (bs : List Int) (hr : RS w 1 A n (byteCells bs)) (hn : n ≤ 9223372036854775807) (hok : ∀ y ∈ bs, 0 ≤ y ∧ y < 256) :
    Calls Try.prog 14 #[.slice A n c] w fun e w' => e = .returned (.bool true) ∧ Below w.heap.size w w' := by
  by_cases hbig : 1048576 < n
  · go_enter Try.func14, Try.ntmps14
    go_wp2_with (go_at_call 17; refine (big_any _ _ _ _ hn).mono ?_; rw [decide_eq_true hbig]; rintro e w' ⟨rfl, rfl⟩)
    go_ret
    exact ⟨rfl, Below.refl _ _⟩
  · go_enter Try.func14, Try.ntmps14
    go_wp2_with fail
    refine (big_any _ _ _ _ hn).mono ?_; rw [decide_eq_false hbig]; rintro e w' ⟨rfl, rfl⟩
    go_wp2_with fail
    refine (DrawIssueLayers_any _ _ _ _ _ hr hok (by omega)).mono ?_; rintro e w1 ⟨A1, n1, c1, l, q, rfl, r1, hn1, hl1, hq, b1⟩
    go_wp2_with fail
    refine (implIssue _ _ _ l q _ r1 (by omega)).mono ?_; rintro e w2 ⟨A2, c2, rfl, o2, hb2⟩
    have rx := RS.of_own o2
    have xlen := issueOut_len l q
    have rl := r1.below hb2
    have b2 := below_then b1 hb2
    clear r1 o2 hb2 b1
    go_wp2_with fail
    refine (specIssue _ _ _ l q _ rl (by omega)).mono ?_; rintro e w3 ⟨A3, c3, rfl, o3, hb3⟩
    have rl := rl.below hb3
    have rx := rx.below hb3
    have b3 := below_then b2 hb3
    clear o3 hb3 b2
    cases is : issueOk l q
    · rw [issueOut_no is, issueCost_no is]
      clear is
      go_wp2_with fail
      go_ret
      exact ⟨rfl, b3⟩
    · have are := (issueOk_iff.1 is).1
      have q1 := (issueOk_iff.1 is).2.1
      have q2 := (issueOk_iff.1 is).2.2
      rw [← leftOf_are are] at q2
      have AT := Lib.hid (sumTo_bd24 (f := fun x => x.v) (val_bd are) (by omega) (areLayers_len are))
      have hl := Lib.hid rl.lay
      have g4 := leftOf_bd l
      have L1 := Lib.hid (law_issue is)
      have L2 := Lib.hid (fun a => law_parts (a := a) is)
      have L3 := Lib.hid (law_whole is)
      have L4 := Lib.hid (law_back is)
      have ARE := Lib.hid are
      clear are is
      go_wp2_with fail
      go_loopw [11, 12] (fun t i wr => ∃ k : Nat, k ≤ n1 ∧ i = .int .i64 k ∧ t = .int .i64 (sumTo (fun x => x.v) l k) ∧ w3 = wr) (fun _ i _ => n1 - (intOf i).toNat)
      case atStart => exact ⟨0, Nat.zero_le _, rfl, by rw [sumTo_zero], rfl⟩
      case round =>
        obtain ⟨k, hk, rfl, rfl, rfl⟩ := hrel
        by_cases hlt : k < n1
        · obtain ⟨g, off, rfl, q', v, u, hx, hq', hv, hu⟩ := rl.layAt hlt
          have HS := Lib.hid (sumTo_succ (fun x => x.v) hx)
          have sb := AT.out k (by rw [hl.out]; omega)
          have hv1 := (val_bd ARE.out) _ (List.mem_of_getElem? hx)
          clear hx
          simp only at hv1
          obtain ⟨sb1, sb2⟩ := sb
          obtain ⟨hv1, hv2⟩ := hv1
          have i1 : (0 : Int) ≤ k := by omega
          have i2 : (k : Int) < n1 := by omega
          go_wp2_with fail
          go_roundw
          case rel => exact ⟨k + 1, by omega, by go_num, by rw [HS.out], trivial⟩
          case measure => simp [intOf]; omega
        · obtain rfl : n1 = k := by omega
          have tv : sumTo (fun x => x.v) l n1 = worthOf l + goneCost l := by
            rw [L1.out.1, ← val_all, hl.out]
          have g1 := goneCost_bd l; have g2 := issueCost_bd l q; have g3 := worthOf_bd l; have g5 := worthOf_bd (issueOut l q); have g6 := goneCost_bd (issueOut l q); have g7 := leftOf_bd (issueOut l q)
          rw [tv]
          clear tv
          have t1 : worthOf (issueOut l q) = worthOf l - issueCost l q := by have := L1.out.2.1; omega
          have t2 : leftOf (issueOut l q) = leftOf l - q := by have := L1.out.2.2.1; omega
          have t3 := L1.out.2.2.2.1
          rw [t1] at g5
          rw [t2] at g7
          rw [t3] at g6
          have T1 := Lib.hid t1; have T2 := Lib.hid t2; have T3 := Lib.hid t3
          clear t1 t2 t3
          have u1 : worthOf l - issueCost l q + issueCost l q = worthOf l := by omega
          have u2 : leftOf l - q + q = leftOf l := by omega
          go_wp2_with fail
          refine (implWorthOf _ _ _ l _ rl (by omega)).mono ?_; rintro e w4 ⟨rfl, hb4⟩
          have rl := rl.below hb4; have rx := rx.below hb4; have b4 := below_then b3 hb4; clear hb4 b3
          go_wp2_with fail
          refine (implGoneCost _ _ _ l _ rl (by omega)).mono ?_; rintro e w5 ⟨rfl, hb5⟩
          have rl := rl.below hb5; have rx := rx.below hb5; have b5 := below_then b4 hb5; clear hb5 b4
          go_wp2_with fail
          refine (implWorthOf _ _ _ (issueOut l q) _ rx (by omega)).mono ?_; rw [T1.out]; rintro e w6 ⟨rfl, hb6⟩
          have rl := rl.below hb6; have rx := rx.below hb6; have b6 := below_then b5 hb6; clear hb6 b5
          go_wp2_with fail
          refine (implWorthOf _ _ _ l _ rl (by omega)).mono ?_; rintro e w7 ⟨rfl, hb7⟩
          have rl := rl.below hb7; have rx := rx.below hb7; have b7 := below_then b6 hb7; clear hb7 b6
          go_wp2_with fail
          refine (implLeftOf _ _ _ (issueOut l q) _ rx (by omega)).mono ?_; rw [T2.out]; rintro e w8 ⟨rfl, hb8⟩
          have rl := rl.below hb8; have rx := rx.below hb8; have b8 := below_then b7 hb8; clear hb8 b7
          go_wp2_with fail
          refine (implLeftOf _ _ _ l _ rl (by omega)).mono ?_; rintro e w9 ⟨rfl, hb9⟩
          have rl := rl.below hb9; have rx := rx.below hb9; have b9 := below_then b8 hb9; clear hb9 b8
          go_wp2_with fail
          refine (implGoneCost _ _ _ (issueOut l q) _ rx (by omega)).mono ?_; rw [T3.out]; rintro e w10 ⟨rfl, hb10⟩
          have rl := rl.below hb10; have rx := rx.below hb10; have b10 := below_then b9 hb10; clear hb10 b9
          go_wp2_with fail
          refine (implGoneCost _ _ _ l _ rl (by omega)).mono ?_; rintro e w11 ⟨rfl, hb11⟩
          have rl := rl.below hb11; have rx := rx.below hb11; have b11 := below_then b10 hb11; clear hb11 b10
          obtain ⟨a, ea⟩ : ∃ a, (q + 1) / 2 = a := ⟨_, rfl⟩
          have a1 : 1 ≤ a := by omega
          have a2 : a ≤ q := by omega
          have oka : issueOk l a = true := by have := L3.out; rwa [ea] at this
          have EA := Lib.hid ea
          clear ea
          have ylen := issueOut_len l a
          have ga := issueCost_bd l a
          go_wp2_with fail
          rw [EA.out]
          refine (implIssue _ _ _ l a _ rl (by omega)).mono ?_; rw [oka]; rintro e w12 ⟨A12, c12, rfl, o12, hb12⟩
          have ry := RS.of_own o12
          have rl := rl.below hb12; have rx := rx.below hb12; have b12 := below_then b11 hb12; clear hb12 b11 oka o12 u1 u2 g1 g3 g5 g6 g7 T1 T2 T3
          have blen := retOut_len (issueOut l q) q
          by_cases haq : a < q
          · obtain ⟨-, k2, k3, k4⟩ := L2.out a a1 haq
            have gz := issueCost_bd (issueOut l a) (q - a)
            have e3 : issueCost (issueOut l a) (q - a) = issueCost l q - issueCost l a := by omega
            rw [e3] at gz
            have K3 := Lib.hid e3
            have K4 := Lib.hid k4
            clear k3 k4 e3
            have zlen := issueOut_len (issueOut l a) (q - a)
            have u3 : issueCost l a + (issueCost l q - issueCost l a) = issueCost l q := by omega
            go_wp2_with fail
            refine (implIssue _ _ _ (issueOut l a) (q - a) _ ry (by omega)).mono ?_; rw [k2, K3.out]; rintro e w13 ⟨A13, c13, rfl, o13, hb13⟩
            have rz := RS.of_own o13
            have rl := rl.below hb13; have rx := rx.below hb13; have b13 := below_then b12 hb13; clear hb13 b12 k2 o13
            go_wp2_with fail
            refine (sameLayers_any _ _ _ _ _ _ _ _ _ rz rx (by omega) (by omega) K4.out).mono ?_; rintro e w14 ⟨rfl, hb14⟩
            have rl := rl.below hb14; have rx := rx.below hb14; have b14 := below_then b13 hb14; clear hb14 b13 rz ry
            go_wp2_with fail
            refine (implReturn _ _ _ (issueOut l q) q _ rx (by omega)).mono ?_; rw [L4.out.1, L4.out.2.1]; rintro e w15 ⟨A15, c15, rfl, o15, hb15⟩
            have rb := RS.of_own o15
            have rl := rl.below hb15; have b15 := below_then b14 hb15; clear hb15 b14 o15
            go_wp2_with fail
            refine (sameLayers_any _ _ _ _ _ _ _ _ _ rb rl (by omega) (by omega) L4.out.2.2).mono ?_; rintro e w16 ⟨rfl, hb16⟩
            have b16 := below_then b15 hb16; clear hb16 b15
            go_wp2_with fail
            go_ret
            exact ⟨rfl, b16⟩
          · obtain rfl : a = q := by omega
            go_wp2_with fail
            refine (implReturn _ _ _ (issueOut l a) a _ rx (by omega)).mono ?_; rw [L4.out.1, L4.out.2.1]; rintro e w15 ⟨A15, c15, rfl, o15, hb15⟩
            have rb := RS.of_own o15
            have rl := rl.below hb15; have b15 := below_then b12 hb15; clear hb15 b12 o15
            go_wp2_with fail
            refine (sameLayers_any _ _ _ _ _ _ _ _ _ rb rl (by omega) (by omega) L4.out.2.2).mono ?_; rintro e w16 ⟨rfl, hb16⟩
            have b16 := below_then b15 hb16; clear hb16 b15
            go_wp2_with fail
            go_ret
            exact ⟨rfl, b16⟩
set_option maxRecDepth 100000 in
theorem lifted (os : Os) (started : os.Started) (H : Type) (enc : TypeId × Value → H) :
    ReturnsInHanded {} Try.checked os 14 .any (Rows.fnLayersSpec.pre6 enc Try.prog Try.f14 Rows.fnLayersRow.domain false) (Rows.fnLayersSpec.post enc Try.prog Try.f14 false true false false) := by
  refine returnsInHanded_of_change (C := Try.checked) Try.own started (by kernel_rfl) Try.func14
    (ChangeSpec.witness6 (enc := enc) (C := Try.checked) false ⟨#[], #[.slice none 0 0], []⟩ 8 (by kernel_rfl) (by kernel_rfl) (by kernel_rfl) (by kernel_rfl)) ?_
  intro W base args ds gs before hval0 hW hcnd _
  have hval : ∀ (j : Nat) t v, Try.f14.params[j]? = some t → args[j]? = some v → Value.okWide Try.prog W .any base t v := hval0
  have hW' := hW
  obtain ⟨p, q, hA0, hV, rfl, hfz, hnd⟩ := hW
  have hA : DataW.TrodAll enc Try.prog W 0 (fun _ => true) true Try.f14.params.toList args.toList ds p := hA0
  rw [Try.params14] at hA hval
  obtain ⟨v0, vs0, d0, ds0, p0, q0, hargs, rfl, rfl, h0, r0⟩ := trodAll_cons hA
  obtain ⟨rfl, rfl, rfl⟩ := trodAll_nil r0
  obtain rfl : args = #[v0] := by cases args; simp_all
  obtain ⟨rfl, rfl⟩ := trodVars_none hV
  obtain ⟨Acode, ncode, ccode, code, rfl, hrcode, hncode, hokcode⟩ := open_bytes (hval 0 22 v0 rfl rfl) h0
  refine (walk W Acode ncode ccode code hrcode hncode hokcode).mono fun e W' ⟨he, hb⟩ => ?_
  subst he
  exact ⟨_, rfl, law_post Try.laidOut (by kernel_rfl) (by kernel_rfl) Try.underlying4 hW' rfl ⟨rfl, rfl, rfl⟩ hb⟩

theorem proved : Rows.FnLayersSaid :=
  OpenClaim.holds_of_wide 14 Try.f14 rfl rfl rfl rfl rfl rfl rfl ⟨rfl, rfl, rfl, rfl, rfl⟩ rfl rfl rfl rfl rfl (by kernel_rfl) Try.func14 (by kernel_rfl)
    (of_decide_eq_true (by kernel_rfl)) (by unfold Func.isWrapper; first | (rw [if_pos (by decide +kernel)]; kernel_rfl) | (rw [if_neg (by decide +kernel)]; exact ⟨rfl, rfl⟩))
    (fun os started H enc _ => lifted os started H enc)
#print axioms proved
end Go.Proofs.Ytknfhiepndffpaa.fnLayers
