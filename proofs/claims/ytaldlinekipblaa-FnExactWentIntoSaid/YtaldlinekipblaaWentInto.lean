/- FnExactWentInto returns true for all arguments, and leaves them as they were. No condition. -/
import Derived.Test.YtaldlinekipblaaTrace
import Derived.ChangeMaps5
namespace Go.Proofs.Ytaldlinekipblaa.fnExactWentInto
open Go.ChangeShapes Go.WideShapes Go.ChangeAt Go.RowKit

set_option maxRecDepth 100000 in
set_option maxHeartbeats 4000000 in
theorem walk (w : World) (Au : Option Addr) (nu cu : Nat) (u : List Us) (hru : RS w 3 Au nu (u.flatMap usCell)) (hnu : nu ≤ 9223372036854775807) (hoku : ∀ y ∈ u, usOk y) (b : ByteArray) (hb : b.size ≤ 9223372036854775807) :
    Calls Try.prog 4 #[.slice Au nu cu, .string b] w fun e w' => e = .returned (.bool true) ∧ Below w.heap.size w w' := by
  by_cases zb : 1048576 < b.size
  · go_enter Try.func4, Try.ntmps4
    go_wp2_with fail
    go_ret
    exact ⟨rfl, Below.refl _ _⟩
  by_cases zu : (1048576 : Int) < (nu + sumF usSz u nu)
  · have HZ := Lib.hid zu; clear zu
    go_enter Try.func4, Try.ntmps4
    go_wp2_with fail
    refine (szUseS_any _ _ _ u _ _ hru (by omega) hoku (by omega) (by omega)).mono ?_; rw [szRes_no HZ.out]; rintro e v0 ⟨rfl, hb0⟩
    have bz0 := hb0
    go_wp2_with fail
    go_ret
    exact ⟨rfl, bz0⟩
  have nnu := sumF_nonneg (f := usSz) (l := u) (fun y _ => usSz_nonneg y) nu
  have Zu := Int.not_lt.1 zu
  clear zu
  have qu : nu ≤ 1048576 := by have := Zu; omega
  obtain ⟨out, ho⟩ : ∃ o, traceL false u b = o := ⟨_, rfl⟩
  obtain ⟨m, hm⟩ : ∃ m, out.length = m := ⟨_, rfl⟩
  have om : m ≤ 1048577 := by have h1 := trace_len false u b; rw [ho, hm, hru.flatLen usCell_len (by omega)] at h1; omega
  have HO := Lib.hid ho; have HM := Lib.hid hm; clear ho hm
  go_enter Try.func4, Try.ntmps4
  go_wp2_with fail
  refine (szUseS_any _ _ _ u _ _ hru (by omega) hoku (by omega) (by have := Zu; omega)).mono ?_; rw [szRes_yes (by have := Zu; omega)]; rintro e w1 ⟨rfl, hb1⟩
  have b1 := hb1
  clear hb1
  have cz := Lib.hid b1.size
  go_wp2_with fail
  refine (toUseS_any _ _ _ u _ (hru.below b1) (by omega)).mono ?_; rintro e w2 ⟨A2, c2, rfl, X1, hb2⟩
  have b2 := below_then b1 hb2
  obtain ⟨lX1, uX1, CX1, cz, X1⟩ : ∃ a b : Nat, Hid (w.heap.size ≤ a ∧ a ≤ b) ∧ Hid (b ≤ w2.heap.size) ∧ Owns w2 a b [⟨56, 3, .slice A2 nu c2, nu, (u.flatMap usCell)⟩] := ⟨_, _, Lib.hid ⟨cz.out, hb2.size⟩, Lib.hid (Nat.le_refl _), Owns.one X1⟩
  clear hb2 b1
  go_wp2_with fail
  refine (specWentInto _ _ _ u b _ (RS.of_own X1.own1) (by omega) (fun y hy => ⟨(hoku y hy).1, (hoku y hy).2.1⟩)).mono ?_; rw [HO.out, HM.out]; rintro e w3 ⟨A3, c3, rfl, W, hb3⟩
  have X1 := X1.below hb3
  have b3 := below_then b2 hb3
  obtain ⟨lW, uW, CW, cz, W⟩ : ∃ a b : Nat, Hid (uX1 ≤ a ∧ a ≤ b) ∧ Hid (b ≤ w3.heap.size) ∧ Owns w3 a b [⟨9, 1, .slice A3 m c3, m, (out.flatMap stCell)⟩] := ⟨_, _, Lib.hid ⟨cz.out, hb3.size⟩, Lib.hid (Nat.le_refl _), Owns.one W⟩
  clear hb3 b2
  clear X1
  go_wp2_with fail
  refine (toUseS_any _ _ _ u _ (hru.below b3) (by omega)).mono ?_; rintro e w4 ⟨A4, c4, rfl, X2, hb4⟩
  have W := W.below hb4
  have b4 := below_then b3 hb4
  obtain ⟨lX2, uX2, CX2, cz, X2⟩ : ∃ a b : Nat, Hid (uW ≤ a ∧ a ≤ b) ∧ Hid (b ≤ w4.heap.size) ∧ Owns w4 a b [⟨56, 3, .slice A4 nu c4, nu, (u.flatMap usCell)⟩] := ⟨_, _, Lib.hid ⟨cz.out, hb4.size⟩, Lib.hid (Nat.le_refl _), Owns.one X2⟩
  clear hb4 b3
  go_wp2_with fail
  refine (implWentInto _ _ _ u b _ (RS.of_own X2.own1) (by omega) (fun y hy => ⟨(hoku y hy).1, (hoku y hy).2.1⟩)).mono ?_; rw [HO.out, HM.out]; rintro e w5 ⟨A5, c5, rfl, R, hb5⟩
  have W := W.below hb5
  have X2 := X2.below hb5
  have b5 := below_then b4 hb5
  obtain ⟨lR, uR, CR, cz, R⟩ : ∃ a b : Nat, Hid (uX2 ≤ a ∧ a ≤ b) ∧ Hid (b ≤ w5.heap.size) ∧ Owns w5 a b [⟨9, 1, .slice A5 m c5, m, (out.flatMap stCell)⟩] := ⟨_, _, Lib.hid ⟨cz.out, hb5.size⟩, Lib.hid (Nat.le_refl _), Owns.one R⟩
  clear hb5 b4
  go_wp2_with fail
  refine (eqStringS_true _ _ _ out _ _ _ out _ (RS.of_own R.own1) (RS.of_own W.own1) (by omega) (by omega) rfl).mono ?_; rintro e w6 ⟨rfl, hb6⟩
  have W := W.below hb6
  have X2 := X2.below hb6
  have R := R.below hb6
  have b6 := below_then b5 hb6
  have cz := Lib.hid (Nat.le_trans cz.out hb6.size)
  clear hb6 b5
  go_wp2_with fail
  refine (toUseS_any _ _ _ u _ (hru.below b6) (by omega)).mono ?_; rintro e w7 ⟨A7, c7, rfl, X3, hb7⟩
  have W := W.below hb7
  have X2 := X2.below hb7
  have R := R.below hb7
  have b7 := below_then b6 hb7
  obtain ⟨lX3, uX3, CX3, cz, X3⟩ : ∃ a b : Nat, Hid (uR ≤ a ∧ a ≤ b) ∧ Hid (b ≤ w7.heap.size) ∧ Owns w7 a b [⟨56, 3, .slice A7 nu c7, nu, (u.flatMap usCell)⟩] := ⟨_, _, Lib.hid ⟨cz.out, hb7.size⟩, Lib.hid (Nat.le_refl _), Owns.one X3⟩
  clear hb7 b6
  go_wp2_with fail
  refine (eqUseS_true _ _ _ u _ _ _ u _ (RS.of_own X2.own1) (RS.of_own X3.own1) (by omega) (by omega) rfl).mono ?_; rintro e w8 ⟨rfl, hb8⟩
  have W := W.below hb8
  have X2 := X2.below hb8
  have R := R.below hb8
  have X3 := X3.below hb8
  have b8 := below_then b7 hb8
  have cz := Lib.hid (Nat.le_trans cz.out hb8.size)
  clear hb8 b7
  clear X3
  go_wp2_with fail
  refine (markUseS_any _ _ _ _ _ (1) _ X2.own1 (by omega) (by omega) (by omega)).mono ?_; rintro e w9 ⟨rfl, MX2, hg9⟩
  have NX2 : Owns w9 lX2 uX2 [⟨56, 3, .slice A4 nu c4, nu, _⟩] := X2.turnIn (i := 0) rfl hg9 MX2 rfl
  have hw9 := X2.within_of (i := 0) rfl hg9
  clear hg9 MX2
  have W := W.within hw9 (by have := CX1.out; have := CW.out; have := CX2.out; have := CR.out; have := CX3.out; omega)
  have R := R.within hw9 (by have := CX1.out; have := CW.out; have := CX2.out; have := CR.out; have := CX3.out; omega)
  have b9 := below_within b8 hw9 (by have := CX1.out; have := CW.out; have := CX2.out; have := CR.out; have := CX3.out; omega) b8.size
  have cz := Lib.hid (Nat.le_trans cz.out hw9.size)
  clear hw9 X2 b8
  have X2 := NX2
  clear NX2
  have gk : ¬ ((1 + nu * 3 : Int) < 0) := by omega
  clear X2
  go_wp2_with fail
  refine (eqStringS_true _ _ _ out _ _ _ out _ (RS.of_own R.own1) (RS.of_own W.own1) (by omega) (by omega) rfl).mono ?_; rintro e w10 ⟨rfl, hb10⟩
  have W := W.below hb10
  have R := R.below hb10
  have b10 := below_then b9 hb10
  have cz := Lib.hid (Nat.le_trans cz.out hb10.size)
  clear hb10 b9
  go_wp2_with fail
  refine (markStringS_any _ _ _ _ _ (1) _ R.own1 (by omega) (by omega) (by omega)).mono ?_; rintro e w11 ⟨rfl, MR, hg11⟩
  have NR : Owns w11 lR uR [⟨9, 1, .slice A5 m c5, m, _⟩] := R.turnIn (i := 0) rfl hg11 MR rfl
  have hw11 := R.within_of (i := 0) rfl hg11
  clear hg11 MR
  have W := W.within hw11 (by have := CX1.out; have := CW.out; have := CX2.out; have := CR.out; have := CX3.out; omega)
  have b11 := below_within b10 hw11 (by have := CX1.out; have := CW.out; have := CX2.out; have := CR.out; have := CX3.out; omega) b10.size
  have cz := Lib.hid (Nat.le_trans cz.out hw11.size)
  clear hw11 R b10
  have R := NR
  clear NR
  go_wp2_with fail
  refine (heldStringS_any _ _ _ (1) _ (RS.of_own R.own1) (by omega) (by omega) (by omega)).mono ?_; rintro e w12 ⟨rfl, hb12⟩
  have W := W.below hb12
  have R := R.below hb12
  have b12 := below_then b11 hb12
  have cz := Lib.hid (Nat.le_trans cz.out hb12.size)
  clear hb12 b11
  go_wp2_with fail
  refine (toUseS_any _ _ _ u _ (hru.below b12) (by omega)).mono ?_; rintro e w13 ⟨A13, c13, rfl, X4, hb13⟩
  have W := W.below hb13
  have R := R.below hb13
  have b13 := below_then b12 hb13
  obtain ⟨lX4, uX4, CX4, cz, X4⟩ : ∃ a b : Nat, Hid (uX3 ≤ a ∧ a ≤ b) ∧ Hid (b ≤ w13.heap.size) ∧ Owns w13 a b [⟨56, 3, .slice A13 nu c13, nu, (u.flatMap usCell)⟩] := ⟨_, _, Lib.hid ⟨cz.out, hb13.size⟩, Lib.hid (Nat.le_refl _), Owns.one X4⟩
  clear hb13 b12
  go_wp2_with fail
  refine (implWentInto _ _ _ u b _ (RS.of_own X4.own1) (by omega) (fun y hy => ⟨(hoku y hy).1, (hoku y hy).2.1⟩)).mono ?_; rw [HO.out, HM.out]; rintro e w14 ⟨A14, c14, rfl, H, hb14⟩
  have W := W.below hb14
  have R := R.below hb14
  have X4 := X4.below hb14
  have b14 := below_then b13 hb14
  obtain ⟨lH, uH, CH, cz, H⟩ : ∃ a b : Nat, Hid (uX4 ≤ a ∧ a ≤ b) ∧ Hid (b ≤ w14.heap.size) ∧ Owns w14 a b [⟨9, 1, .slice A14 m c14, m, (out.flatMap stCell)⟩] := ⟨_, _, Lib.hid ⟨cz.out, hb14.size⟩, Lib.hid (Nat.le_refl _), Owns.one H⟩
  clear hb14 b13
  clear X4
  go_wp2_with fail
  refine (eqStringS_true _ _ _ out _ _ _ out _ (RS.of_own H.own1) (RS.of_own W.own1) (by omega) (by omega) rfl).mono ?_; rintro e w15 ⟨rfl, hb15⟩
  have W := W.below hb15
  have R := R.below hb15
  have H := H.below hb15
  have b15 := below_then b14 hb15
  have cz := Lib.hid (Nat.le_trans cz.out hb15.size)
  clear hb15 b14
  clear H
  clear W
  go_wp2_with fail
  refine (heldStringS_any _ _ _ (1) _ (RS.of_own R.own1) (by omega) (by omega) (by omega)).mono ?_; rintro e w16 ⟨rfl, hb16⟩
  have R := R.below hb16
  have b16 := below_then b15 hb16
  have cz := Lib.hid (Nat.le_trans cz.out hb16.size)
  clear hb16 b15
  go_wp2_with fail
  go_ret
  exact ⟨rfl, b16⟩

set_option maxRecDepth 100000 in
theorem lifted (os : Os) (started : os.Started) (H : Type) (enc : TypeId × Value → H) :
    ReturnsInHanded {} Try.checked os 4 .any (Rows.fnExactWentIntoSpec.pre6 enc Try.prog Try.f4 Rows.fnExactWentIntoRow.domain false) (Rows.fnExactWentIntoSpec.post enc Try.prog Try.f4 false true false false) := by
  refine returnsInHanded_of_change (C := Try.checked) Try.own started (by kernel_rfl) Try.func4
    (ChangeSpec.witness6 (enc := enc) (C := Try.checked) false ⟨#[], #[.slice none 0 0, .string .empty], []⟩ 8 (by kernel_rfl) (by kernel_rfl) (by kernel_rfl) (by kernel_rfl)) ?_
  intro W base args ds gs before hval0 hW hcnd _
  have hval : ∀ (j : Nat) t v, Try.f4.params[j]? = some t → args[j]? = some v → Value.okWide Try.prog W .any base t v := hval0
  have hW' := hW
  obtain ⟨p, q, hA0, hV, rfl, hfz, hnd⟩ := hW
  have hA : DataW.TrodAll enc Try.prog W 0 (fun _ => true) true Try.f4.params.toList args.toList ds p := hA0
  rw [Try.params4] at hA hval
  obtain ⟨v0, vs0, d0, ds0, p0, q0, hargs, rfl, rfl, h0, r0⟩ := trodAll_cons hA
  obtain ⟨v1, vs1, d1, ds1, p1, q1, rfl, rfl, rfl, h1, r1⟩ := trodAll_cons r0
  obtain ⟨rfl, rfl, rfl⟩ := trodAll_nil r1
  obtain rfl : args = #[v0, v1] := by cases args; simp_all
  obtain ⟨rfl, rfl⟩ := trodVars_none hV
  obtain ⟨Au, nu, cu, u, rfl, hru, hnu, hoku⟩ := open_uss (hval 0 22 v0 rfl rfl) h0
  obtain ⟨b, rfl, rfl, rfl, wb⟩ := Go.ChangeMaps.open_string Try.underlying9 (hval 1 9 v1 rfl rfl) h1
  refine (walk W Au nu cu u hru hnu hoku b (by unfold maxLen at wb; omega)).mono fun e W' ⟨he, hb⟩ => ?_
  subst he
  exact ⟨_, rfl, law_post Try.laidOut (by kernel_rfl) (by kernel_rfl) Try.underlying4 hW' rfl ⟨rfl, rfl, rfl⟩ hb⟩

theorem proved : Rows.FnExactWentIntoSaid :=
  OpenClaim.holds_of_wide 4 Try.f4 rfl rfl rfl rfl rfl rfl rfl ⟨rfl, rfl, rfl, rfl, rfl⟩ rfl rfl rfl rfl rfl (by kernel_rfl) Try.func4 (by kernel_rfl)
    (of_decide_eq_true (by kernel_rfl)) (by unfold Func.isWrapper; first | (rw [if_pos (by decide +kernel)]; kernel_rfl) | (rw [if_neg (by decide +kernel)]; exact ⟨rfl, rfl⟩))
    (fun os started H enc _ => lifted os started H enc)
#print axioms proved
end Go.Proofs.Ytaldlinekipblaa.fnExactWentInto
