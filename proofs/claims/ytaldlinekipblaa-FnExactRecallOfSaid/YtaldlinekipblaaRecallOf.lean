/- FnExactRecallOf returns true for all arguments, and leaves them as they were. No condition. -/
import Derived.Test.YtaldlinekipblaaRecall
import Derived.ChangeMaps5
namespace Go.Proofs.Ytaldlinekipblaa.fnExactRecallOf
open Go.ChangeShapes Go.WideShapes Go.ChangeAt Go.RowKit

set_option maxRecDepth 100000 in
set_option maxHeartbeats 4000000 in
theorem walk (w : World) (Au : Option Addr) (nu cu : Nat) (u : List Us) (hru : RS w 3 Au nu (u.flatMap usCell)) (hnu : nu ≤ 9223372036854775807) (hoku : ∀ y ∈ u, usOk y) (As : Option Addr) (ns cs : Nat) (s : List Sh) (hrs : RS w 2 As ns (s.flatMap shCell)) (hns : ns ≤ 9223372036854775807) (hoks : ∀ y ∈ s, shOk y) (b : ByteArray) (hb : b.size ≤ 9223372036854775807) :
    Calls Try.prog 5 #[.slice Au nu cu, .slice As ns cs, .string b] w fun e w' => e = .returned (.bool true) ∧ Below w.heap.size w w' := by
  by_cases zb : 1048576 < b.size
  · go_enter Try.func5, Try.ntmps5
    go_wp2_with fail
    go_ret
    exact ⟨rfl, Below.refl _ _⟩
  by_cases zu : (1048576 : Int) < (nu + sumF usSz u nu)
  · have HZ := Lib.hid zu; clear zu
    go_enter Try.func5, Try.ntmps5
    go_wp2_with fail
    refine (szUseS_any _ _ _ u _ _ hru (by omega) hoku (by omega) (by omega)).mono ?_; rw [szRes_no HZ.out]; rintro e v0 ⟨rfl, hb0⟩
    have bz0 := hb0
    go_wp2_with fail
    go_ret
    exact ⟨rfl, bz0⟩
  have nnu := sumF_nonneg (f := usSz) (l := u) (fun y _ => usSz_nonneg y) nu
  have Zu := Int.not_lt.1 zu
  clear zu
  by_cases zs : (1048576 - (nu + sumF usSz u nu) : Int) < (ns + sumF shSz s ns)
  · have HZ := Lib.hid zs; clear zs
    go_enter Try.func5, Try.ntmps5
    go_wp2_with fail
    refine (szUseS_any _ _ _ u _ _ hru (by omega) hoku (by omega) (by omega)).mono ?_; rw [szRes_yes (by have := Zu; omega)]; rintro e v0 ⟨rfl, hb0⟩
    have bz0 := hb0
    go_wp2_with fail
    refine (szShipmentS_any _ _ _ s _ _ (hrs.below bz0) (by omega) hoks (by omega) (by omega)).mono ?_; rw [szRes_no HZ.out]; rintro e v1 ⟨rfl, hb1⟩
    have bz1 := below_then bz0 hb1
    go_wp2_with fail
    go_ret
    exact ⟨rfl, bz1⟩
  have nns := sumF_nonneg (f := shSz) (l := s) (fun y _ => shSz_nonneg y) ns
  have Zs := Int.not_lt.1 zs
  clear zs
  have qu : nu ≤ 1048576 := by have := Zu; have := Zs; omega
  have qs : ns ≤ 1048576 := by have := Zu; have := Zs; omega
  obtain ⟨out, ho⟩ : ∃ o, recallL u s b = o := ⟨_, rfl⟩
  obtain ⟨m, hm⟩ : ∃ m, out.length = m := ⟨_, rfl⟩
  have om : m ≤ 1048577 := by have h1 := recall_len u s b; rw [ho, hm, hrs.flatLen shCell_len (by omega)] at h1; omega
  have HO := Lib.hid ho; have HM := Lib.hid hm; clear ho hm
  go_enter Try.func5, Try.ntmps5
  go_wp2_with fail
  refine (szUseS_any _ _ _ u _ _ hru (by omega) hoku (by omega) (by have := Zu; omega)).mono ?_; rw [szRes_yes (by have := Zu; omega)]; rintro e w1 ⟨rfl, hb1⟩
  have b1 := hb1
  clear hb1
  go_wp2_with fail
  refine (szShipmentS_any _ _ _ s _ _ (hrs.below b1) (by omega) hoks (by omega) (by have := Zs; omega)).mono ?_; rw [szRes_yes (by have := Zs; omega)]; rintro e w2 ⟨rfl, hb2⟩
  have b2 := below_then b1 hb2
  clear hb2 b1
  have cz := Lib.hid b2.size
  go_wp2_with fail
  refine (toUseS_any _ _ _ u _ (hru.below b2) (by omega)).mono ?_; rintro e w3 ⟨A3, c3, rfl, X1, hb3⟩
  have b3 := below_then b2 hb3
  obtain ⟨lX1, uX1, CX1, cz, X1⟩ : ∃ a b : Nat, Hid (w.heap.size ≤ a ∧ a ≤ b) ∧ Hid (b ≤ w3.heap.size) ∧ Owns w3 a b [⟨56, 3, .slice A3 nu c3, nu, (u.flatMap usCell)⟩] := ⟨_, _, Lib.hid ⟨cz.out, hb3.size⟩, Lib.hid (Nat.le_refl _), Owns.one X1⟩
  clear hb3 b2
  go_wp2_with fail
  refine (toShipmentS_any _ _ _ s _ (hrs.below b3) (by omega)).mono ?_; rintro e w4 ⟨A4, c4, rfl, X2, hb4⟩
  have X1 := X1.below hb4
  have b4 := below_then b3 hb4
  obtain ⟨lX2, uX2, CX2, cz, X2⟩ : ∃ a b : Nat, Hid (uX1 ≤ a ∧ a ≤ b) ∧ Hid (b ≤ w4.heap.size) ∧ Owns w4 a b [⟨51, 2, .slice A4 ns c4, ns, (s.flatMap shCell)⟩] := ⟨_, _, Lib.hid ⟨cz.out, hb4.size⟩, Lib.hid (Nat.le_refl _), Owns.one X2⟩
  clear hb4 b3
  go_wp2_with fail
  refine (specRecallOf _ _ _ u _ _ _ s b _ (RS.of_own X1.own1) (by omega) (RS.of_own X2.own1) (by omega) (fun y hy => ⟨(hoku y hy).1, (hoku y hy).2.1⟩) (fun y hy => hoks y hy)).mono ?_; rw [HO.out, HM.out]; rintro e w5 ⟨A5, c5, rfl, W, hb5⟩
  have X1 := X1.below hb5
  have X2 := X2.below hb5
  have b5 := below_then b4 hb5
  obtain ⟨lW, uW, CW, cz, W⟩ : ∃ a b : Nat, Hid (uX2 ≤ a ∧ a ≤ b) ∧ Hid (b ≤ w5.heap.size) ∧ Owns w5 a b [⟨9, 1, .slice A5 m c5, m, (out.flatMap stCell)⟩] := ⟨_, _, Lib.hid ⟨cz.out, hb5.size⟩, Lib.hid (Nat.le_refl _), Owns.one W⟩
  clear hb5 b4
  clear X1
  clear X2
  go_wp2_with fail
  refine (toUseS_any _ _ _ u _ (hru.below b5) (by omega)).mono ?_; rintro e w6 ⟨A6, c6, rfl, X3, hb6⟩
  have W := W.below hb6
  have b6 := below_then b5 hb6
  obtain ⟨lX3, uX3, CX3, cz, X3⟩ : ∃ a b : Nat, Hid (uW ≤ a ∧ a ≤ b) ∧ Hid (b ≤ w6.heap.size) ∧ Owns w6 a b [⟨56, 3, .slice A6 nu c6, nu, (u.flatMap usCell)⟩] := ⟨_, _, Lib.hid ⟨cz.out, hb6.size⟩, Lib.hid (Nat.le_refl _), Owns.one X3⟩
  clear hb6 b5
  go_wp2_with fail
  refine (toShipmentS_any _ _ _ s _ (hrs.below b6) (by omega)).mono ?_; rintro e w7 ⟨A7, c7, rfl, X4, hb7⟩
  have W := W.below hb7
  have X3 := X3.below hb7
  have b7 := below_then b6 hb7
  obtain ⟨lX4, uX4, CX4, cz, X4⟩ : ∃ a b : Nat, Hid (uX3 ≤ a ∧ a ≤ b) ∧ Hid (b ≤ w7.heap.size) ∧ Owns w7 a b [⟨51, 2, .slice A7 ns c7, ns, (s.flatMap shCell)⟩] := ⟨_, _, Lib.hid ⟨cz.out, hb7.size⟩, Lib.hid (Nat.le_refl _), Owns.one X4⟩
  clear hb7 b6
  go_wp2_with fail
  refine (implRecallOf _ _ _ u _ _ _ s b _ (RS.of_own X3.own1) (by omega) (RS.of_own X4.own1) (by omega) (fun y hy => ⟨(hoku y hy).1, (hoku y hy).2.1⟩) (fun y hy => hoks y hy)).mono ?_; rw [HO.out, HM.out]; rintro e w8 ⟨A8, c8, rfl, R, hb8⟩
  have W := W.below hb8
  have X3 := X3.below hb8
  have X4 := X4.below hb8
  have b8 := below_then b7 hb8
  obtain ⟨lR, uR, CR, cz, R⟩ : ∃ a b : Nat, Hid (uX4 ≤ a ∧ a ≤ b) ∧ Hid (b ≤ w8.heap.size) ∧ Owns w8 a b [⟨9, 1, .slice A8 m c8, m, (out.flatMap stCell)⟩] := ⟨_, _, Lib.hid ⟨cz.out, hb8.size⟩, Lib.hid (Nat.le_refl _), Owns.one R⟩
  clear hb8 b7
  go_wp2_with fail
  refine (eqStringS_true _ _ _ out _ _ _ out _ (RS.of_own R.own1) (RS.of_own W.own1) (by omega) (by omega) rfl).mono ?_; rintro e w9 ⟨rfl, hb9⟩
  have W := W.below hb9
  have X3 := X3.below hb9
  have X4 := X4.below hb9
  have R := R.below hb9
  have b9 := below_then b8 hb9
  have cz := Lib.hid (Nat.le_trans cz.out hb9.size)
  clear hb9 b8
  go_wp2_with fail
  refine (toUseS_any _ _ _ u _ (hru.below b9) (by omega)).mono ?_; rintro e w10 ⟨A10, c10, rfl, X5, hb10⟩
  have W := W.below hb10
  have X3 := X3.below hb10
  have X4 := X4.below hb10
  have R := R.below hb10
  have b10 := below_then b9 hb10
  obtain ⟨lX5, uX5, CX5, cz, X5⟩ : ∃ a b : Nat, Hid (uR ≤ a ∧ a ≤ b) ∧ Hid (b ≤ w10.heap.size) ∧ Owns w10 a b [⟨56, 3, .slice A10 nu c10, nu, (u.flatMap usCell)⟩] := ⟨_, _, Lib.hid ⟨cz.out, hb10.size⟩, Lib.hid (Nat.le_refl _), Owns.one X5⟩
  clear hb10 b9
  go_wp2_with fail
  refine (eqUseS_true _ _ _ u _ _ _ u _ (RS.of_own X3.own1) (RS.of_own X5.own1) (by omega) (by omega) rfl).mono ?_; rintro e w11 ⟨rfl, hb11⟩
  have W := W.below hb11
  have X3 := X3.below hb11
  have X4 := X4.below hb11
  have R := R.below hb11
  have X5 := X5.below hb11
  have b11 := below_then b10 hb11
  have cz := Lib.hid (Nat.le_trans cz.out hb11.size)
  clear hb11 b10
  clear X5
  go_wp2_with fail
  refine (toShipmentS_any _ _ _ s _ (hrs.below b11) (by omega)).mono ?_; rintro e w12 ⟨A12, c12, rfl, X6, hb12⟩
  have W := W.below hb12
  have X3 := X3.below hb12
  have X4 := X4.below hb12
  have R := R.below hb12
  have b12 := below_then b11 hb12
  obtain ⟨lX6, uX6, CX6, cz, X6⟩ : ∃ a b : Nat, Hid (uX5 ≤ a ∧ a ≤ b) ∧ Hid (b ≤ w12.heap.size) ∧ Owns w12 a b [⟨51, 2, .slice A12 ns c12, ns, (s.flatMap shCell)⟩] := ⟨_, _, Lib.hid ⟨cz.out, hb12.size⟩, Lib.hid (Nat.le_refl _), Owns.one X6⟩
  clear hb12 b11
  go_wp2_with fail
  refine (eqShipmentS_true _ _ _ s _ _ _ s _ (RS.of_own X4.own1) (RS.of_own X6.own1) (by omega) (by omega) rfl).mono ?_; rintro e w13 ⟨rfl, hb13⟩
  have W := W.below hb13
  have X3 := X3.below hb13
  have X4 := X4.below hb13
  have R := R.below hb13
  have X6 := X6.below hb13
  have b13 := below_then b12 hb13
  have cz := Lib.hid (Nat.le_trans cz.out hb13.size)
  clear hb13 b12
  clear X6
  go_wp2_with fail
  refine (markUseS_any _ _ _ _ _ (1) _ X3.own1 (by omega) (by omega) (by omega)).mono ?_; rintro e w14 ⟨rfl, MX3, hg14⟩
  have NX3 : Owns w14 lX3 uX3 [⟨56, 3, .slice A6 nu c6, nu, _⟩] := X3.turnIn (i := 0) rfl hg14 MX3 rfl
  have hw14 := X3.within_of (i := 0) rfl hg14
  clear hg14 MX3
  have W := W.within hw14 (by have := CX1.out; have := CX2.out; have := CW.out; have := CX3.out; have := CX4.out; have := CR.out; have := CX5.out; have := CX6.out; omega)
  have X4 := X4.within hw14 (by have := CX1.out; have := CX2.out; have := CW.out; have := CX3.out; have := CX4.out; have := CR.out; have := CX5.out; have := CX6.out; omega)
  have R := R.within hw14 (by have := CX1.out; have := CX2.out; have := CW.out; have := CX3.out; have := CX4.out; have := CR.out; have := CX5.out; have := CX6.out; omega)
  have b14 := below_within b13 hw14 (by have := CX1.out; have := CX2.out; have := CW.out; have := CX3.out; have := CX4.out; have := CR.out; have := CX5.out; have := CX6.out; omega) b13.size
  have cz := Lib.hid (Nat.le_trans cz.out hw14.size)
  clear hw14 X3 b13
  have X3 := NX3
  clear NX3
  go_wp2_with fail
  refine (markShipmentS_any _ _ _ _ _ (1 + nu * 3) _ X4.own1 (by omega) (by omega) (by omega)).mono ?_; rintro e w15 ⟨rfl, MX4, hg15⟩
  have NX4 : Owns w15 lX4 uX4 [⟨51, 2, .slice A7 ns c7, ns, _⟩] := X4.turnIn (i := 0) rfl hg15 MX4 rfl
  have hw15 := X4.within_of (i := 0) rfl hg15
  clear hg15 MX4
  have W := W.within hw15 (by have := CX1.out; have := CX2.out; have := CW.out; have := CX3.out; have := CX4.out; have := CR.out; have := CX5.out; have := CX6.out; omega)
  have X3 := X3.within hw15 (by have := CX1.out; have := CX2.out; have := CW.out; have := CX3.out; have := CX4.out; have := CR.out; have := CX5.out; have := CX6.out; omega)
  have R := R.within hw15 (by have := CX1.out; have := CX2.out; have := CW.out; have := CX3.out; have := CX4.out; have := CR.out; have := CX5.out; have := CX6.out; omega)
  have b15 := below_within b14 hw15 (by have := CX1.out; have := CX2.out; have := CW.out; have := CX3.out; have := CX4.out; have := CR.out; have := CX5.out; have := CX6.out; omega) b14.size
  have cz := Lib.hid (Nat.le_trans cz.out hw15.size)
  clear hw15 X4 b14
  have X4 := NX4
  clear NX4
  have gk : ¬ ((1 + nu * 3 + ns * 2 : Int) < 0) := by omega
  clear X3
  clear X4
  go_wp2_with fail
  refine (eqStringS_true _ _ _ out _ _ _ out _ (RS.of_own R.own1) (RS.of_own W.own1) (by omega) (by omega) rfl).mono ?_; rintro e w16 ⟨rfl, hb16⟩
  have W := W.below hb16
  have R := R.below hb16
  have b16 := below_then b15 hb16
  have cz := Lib.hid (Nat.le_trans cz.out hb16.size)
  clear hb16 b15
  go_wp2_with fail
  refine (markStringS_any _ _ _ _ _ (1) _ R.own1 (by omega) (by omega) (by omega)).mono ?_; rintro e w17 ⟨rfl, MR, hg17⟩
  have NR : Owns w17 lR uR [⟨9, 1, .slice A8 m c8, m, _⟩] := R.turnIn (i := 0) rfl hg17 MR rfl
  have hw17 := R.within_of (i := 0) rfl hg17
  clear hg17 MR
  have W := W.within hw17 (by have := CX1.out; have := CX2.out; have := CW.out; have := CX3.out; have := CX4.out; have := CR.out; have := CX5.out; have := CX6.out; omega)
  have b17 := below_within b16 hw17 (by have := CX1.out; have := CX2.out; have := CW.out; have := CX3.out; have := CX4.out; have := CR.out; have := CX5.out; have := CX6.out; omega) b16.size
  have cz := Lib.hid (Nat.le_trans cz.out hw17.size)
  clear hw17 R b16
  have R := NR
  clear NR
  go_wp2_with fail
  refine (heldStringS_any _ _ _ (1) _ (RS.of_own R.own1) (by omega) (by omega) (by omega)).mono ?_; rintro e w18 ⟨rfl, hb18⟩
  have W := W.below hb18
  have R := R.below hb18
  have b18 := below_then b17 hb18
  have cz := Lib.hid (Nat.le_trans cz.out hb18.size)
  clear hb18 b17
  go_wp2_with fail
  refine (toUseS_any _ _ _ u _ (hru.below b18) (by omega)).mono ?_; rintro e w19 ⟨A19, c19, rfl, X7, hb19⟩
  have W := W.below hb19
  have R := R.below hb19
  have b19 := below_then b18 hb19
  obtain ⟨lX7, uX7, CX7, cz, X7⟩ : ∃ a b : Nat, Hid (uX6 ≤ a ∧ a ≤ b) ∧ Hid (b ≤ w19.heap.size) ∧ Owns w19 a b [⟨56, 3, .slice A19 nu c19, nu, (u.flatMap usCell)⟩] := ⟨_, _, Lib.hid ⟨cz.out, hb19.size⟩, Lib.hid (Nat.le_refl _), Owns.one X7⟩
  clear hb19 b18
  go_wp2_with fail
  refine (toShipmentS_any _ _ _ s _ (hrs.below b19) (by omega)).mono ?_; rintro e w20 ⟨A20, c20, rfl, X8, hb20⟩
  have W := W.below hb20
  have R := R.below hb20
  have X7 := X7.below hb20
  have b20 := below_then b19 hb20
  obtain ⟨lX8, uX8, CX8, cz, X8⟩ : ∃ a b : Nat, Hid (uX7 ≤ a ∧ a ≤ b) ∧ Hid (b ≤ w20.heap.size) ∧ Owns w20 a b [⟨51, 2, .slice A20 ns c20, ns, (s.flatMap shCell)⟩] := ⟨_, _, Lib.hid ⟨cz.out, hb20.size⟩, Lib.hid (Nat.le_refl _), Owns.one X8⟩
  clear hb20 b19
  go_wp2_with fail
  refine (implRecallOf _ _ _ u _ _ _ s b _ (RS.of_own X7.own1) (by omega) (RS.of_own X8.own1) (by omega) (fun y hy => ⟨(hoku y hy).1, (hoku y hy).2.1⟩) (fun y hy => hoks y hy)).mono ?_; rw [HO.out, HM.out]; rintro e w21 ⟨A21, c21, rfl, H, hb21⟩
  have W := W.below hb21
  have R := R.below hb21
  have X7 := X7.below hb21
  have X8 := X8.below hb21
  have b21 := below_then b20 hb21
  obtain ⟨lH, uH, CH, cz, H⟩ : ∃ a b : Nat, Hid (uX8 ≤ a ∧ a ≤ b) ∧ Hid (b ≤ w21.heap.size) ∧ Owns w21 a b [⟨9, 1, .slice A21 m c21, m, (out.flatMap stCell)⟩] := ⟨_, _, Lib.hid ⟨cz.out, hb21.size⟩, Lib.hid (Nat.le_refl _), Owns.one H⟩
  clear hb21 b20
  clear X7
  clear X8
  go_wp2_with fail
  refine (eqStringS_true _ _ _ out _ _ _ out _ (RS.of_own H.own1) (RS.of_own W.own1) (by omega) (by omega) rfl).mono ?_; rintro e w22 ⟨rfl, hb22⟩
  have W := W.below hb22
  have R := R.below hb22
  have H := H.below hb22
  have b22 := below_then b21 hb22
  have cz := Lib.hid (Nat.le_trans cz.out hb22.size)
  clear hb22 b21
  clear H
  clear W
  go_wp2_with fail
  refine (heldStringS_any _ _ _ (1) _ (RS.of_own R.own1) (by omega) (by omega) (by omega)).mono ?_; rintro e w23 ⟨rfl, hb23⟩
  have R := R.below hb23
  have b23 := below_then b22 hb23
  have cz := Lib.hid (Nat.le_trans cz.out hb23.size)
  clear hb23 b22
  go_wp2_with fail
  go_ret
  exact ⟨rfl, b23⟩

set_option maxRecDepth 100000 in
theorem lifted (os : Os) (started : os.Started) (H : Type) (enc : TypeId × Value → H) :
    ReturnsInHanded {} Try.checked os 5 .any (Rows.fnExactRecallOfSpec.pre6 enc Try.prog Try.f5 Rows.fnExactRecallOfRow.domain false) (Rows.fnExactRecallOfSpec.post enc Try.prog Try.f5 false true false false) := by
  refine returnsInHanded_of_change (C := Try.checked) Try.own started (by kernel_rfl) Try.func5
    (ChangeSpec.witness6 (enc := enc) (C := Try.checked) false ⟨#[], #[.slice none 0 0, .slice none 0 0, .string .empty], []⟩ 8 (by kernel_rfl) (by kernel_rfl) (by kernel_rfl) (by kernel_rfl)) ?_
  intro W base args ds gs before hval0 hW hcnd _
  have hval : ∀ (j : Nat) t v, Try.f5.params[j]? = some t → args[j]? = some v → Value.okWide Try.prog W .any base t v := hval0
  have hW' := hW
  obtain ⟨p, q, hA0, hV, rfl, hfz, hnd⟩ := hW
  have hA : DataW.TrodAll enc Try.prog W 0 (fun _ => true) true Try.f5.params.toList args.toList ds p := hA0
  rw [Try.params5] at hA hval
  obtain ⟨v0, vs0, d0, ds0, p0, q0, hargs, rfl, rfl, h0, r0⟩ := trodAll_cons hA
  obtain ⟨v1, vs1, d1, ds1, p1, q1, rfl, rfl, rfl, h1, r1⟩ := trodAll_cons r0
  obtain ⟨v2, vs2, d2, ds2, p2, q2, rfl, rfl, rfl, h2, r2⟩ := trodAll_cons r1
  obtain ⟨rfl, rfl, rfl⟩ := trodAll_nil r2
  obtain rfl : args = #[v0, v1, v2] := by cases args; simp_all
  obtain ⟨rfl, rfl⟩ := trodVars_none hV
  obtain ⟨Au, nu, cu, u, rfl, hru, hnu, hoku⟩ := open_uss (hval 0 22 v0 rfl rfl) h0
  obtain ⟨As, ns, cs, s, rfl, hrs, hns, hoks⟩ := open_shs (hval 1 33 v1 rfl rfl) h1
  obtain ⟨b, rfl, rfl, rfl, wb⟩ := Go.ChangeMaps.open_string Try.underlying9 (hval 2 9 v2 rfl rfl) h2
  refine (walk W Au nu cu u hru hnu hoku As ns cs s hrs hns hoks b (by unfold maxLen at wb; omega)).mono fun e W' ⟨he, hb⟩ => ?_
  subst he
  exact ⟨_, rfl, law_post Try.laidOut (by kernel_rfl) (by kernel_rfl) Try.underlying4 hW' rfl ⟨rfl, rfl, rfl⟩ hb⟩

theorem proved : Rows.FnExactRecallOfSaid :=
  OpenClaim.holds_of_wide 5 Try.f5 rfl rfl rfl rfl rfl rfl rfl ⟨rfl, rfl, rfl, rfl, rfl⟩ rfl rfl rfl rfl rfl (by kernel_rfl) Try.func5 (by kernel_rfl)
    (of_decide_eq_true (by kernel_rfl)) (by unfold Func.isWrapper; first | (rw [if_pos (by decide +kernel)]; kernel_rfl) | (rw [if_neg (by decide +kernel)]; exact ⟨rfl, rfl⟩))
    (fun os started H enc _ => lifted os started H enc)
#print axioms proved
end Go.Proofs.Ytaldlinekipblaa.fnExactRecallOf
