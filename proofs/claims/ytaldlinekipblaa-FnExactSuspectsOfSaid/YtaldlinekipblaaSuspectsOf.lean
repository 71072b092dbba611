/- FnExactSuspectsOf returns true for all arguments, and leaves them as they were. No condition. -/
import Derived.Test.YtaldlinekipblaaSuspects
namespace Go.Proofs.Ytaldlinekipblaa.fnExactSuspectsOf
open Go.ChangeShapes Go.WideShapes Go.ChangeAt Go.RowKit

set_option maxRecDepth 100000 in
set_option maxHeartbeats 4000000 in
theorem walk (w : World) (Au : Option Addr) (nu cu : Nat) (u : List Us) (hru : RS w 3 Au nu (u.flatMap usCell)) (hnu : nu ≤ 9223372036854775807) (hoku : ∀ y ∈ u, usOk y) (As : Option Addr) (ns cs : Nat) (s : List Sh) (hrs : RS w 2 As ns (s.flatMap shCell)) (hns : ns ≤ 9223372036854775807) (hoks : ∀ y ∈ s, shOk y) (Ac : Option Addr) (nc cc : Nat) (c : List ByteArray) (hrc : RS w 1 Ac nc (c.flatMap stCell)) (hnc : nc ≤ 9223372036854775807) (hokc : ∀ y ∈ c, stOk y) :
    Calls Try.prog 6 #[.slice Au nu cu, .slice As ns cs, .slice Ac nc cc] w fun e w' => e = .returned (.bool true) ∧ Below w.heap.size w w' := by
  by_cases zu : (1048576 : Int) < (nu + sumF usSz u nu)
  · have HZ := Lib.hid zu; clear zu
    go_enter Try.func6, Try.ntmps6
    go_wp2_with fail
    refine (szUseS_any _ _ _ u _ _ hru (by omega) hoku (by omega) (by omega)).mono ?_; rw [szRes_no HZ.out]; rintro e v0 ⟨rfl, hb0⟩
    have bz0 := hb0
    go_wp2_with fail
    go_ret
    exact ⟨rfl, bz0⟩
  have nnu := sumF_nonneg (f := usSz) (l := u) (fun y _ => usSz_nonneg y) nu
  have Zu := Int.not_lt.1 zu
  clear zu
  by_cases zs : (1048576 - (nu + sumF usSz u nu) : Int) < (ns + sumF shSz s ns)
  · have HZ := Lib.hid zs; clear zs
    go_enter Try.func6, Try.ntmps6
    go_wp2_with fail
    refine (szUseS_any _ _ _ u _ _ hru (by omega) hoku (by omega) (by omega)).mono ?_; rw [szRes_yes (by have := Zu; omega)]; rintro e v0 ⟨rfl, hb0⟩
    have bz0 := hb0
    go_wp2_with fail
    refine (szShipmentS_any _ _ _ s _ _ (hrs.below bz0) (by omega) hoks (by omega) (by omega)).mono ?_; rw [szRes_no HZ.out]; rintro e v1 ⟨rfl, hb1⟩
    have bz1 := below_then bz0 hb1
    go_wp2_with fail
    go_ret
    exact ⟨rfl, bz1⟩
  have nns := sumF_nonneg (f := shSz) (l := s) (fun y _ => shSz_nonneg y) ns
  have Zs := Int.not_lt.1 zs
  clear zs
  by_cases zc : (1048576 - (nu + sumF usSz u nu) - (ns + sumF shSz s ns) : Int) < (nc + sumF stSz c nc)
  · have HZ := Lib.hid zc; clear zc
    go_enter Try.func6, Try.ntmps6
    go_wp2_with fail
    refine (szUseS_any _ _ _ u _ _ hru (by omega) hoku (by omega) (by omega)).mono ?_; rw [szRes_yes (by have := Zu; omega)]; rintro e v0 ⟨rfl, hb0⟩
    have bz0 := hb0
    go_wp2_with fail
    refine (szShipmentS_any _ _ _ s _ _ (hrs.below bz0) (by omega) hoks (by omega) (by omega)).mono ?_; rw [szRes_yes (by have := Zs; omega)]; rintro e v1 ⟨rfl, hb1⟩
    have bz1 := below_then bz0 hb1
    go_wp2_with fail
    refine (szStringS_any _ _ _ c _ _ (hrc.below bz1) (by omega) hokc (by omega) (by omega)).mono ?_; rw [szRes_no HZ.out]; rintro e v2 ⟨rfl, hb2⟩
    have bz2 := below_then bz1 hb2
    go_wp2_with fail
    go_ret
    exact ⟨rfl, bz2⟩
  have nnc := sumF_nonneg (f := stSz) (l := c) (fun y _ => stSz_nonneg y) nc
  have Zc := Int.not_lt.1 zc
  clear zc
  have qu : nu ≤ 1048576 := by have := Zu; have := Zs; have := Zc; omega
  have qs : ns ≤ 1048576 := by have := Zu; have := Zs; have := Zc; omega
  have qc : nc ≤ 1048576 := by have := Zu; have := Zs; have := Zc; omega
  obtain ⟨out, ho⟩ : ∃ o, suspL u s c = o := ⟨_, rfl⟩
  obtain ⟨m, hm⟩ : ∃ m, out.length = m := ⟨_, rfl⟩
  have om : m ≤ 1048577 := by have h1 := susp_len u s c; rw [ho, hm] at h1; omega
  have HO := Lib.hid ho; have HM := Lib.hid hm; clear ho hm
  go_enter Try.func6, Try.ntmps6
  go_wp2_with fail
  refine (szUseS_any _ _ _ u _ _ hru (by omega) hoku (by omega) (by have := Zu; omega)).mono ?_; rw [szRes_yes (by have := Zu; omega)]; rintro e w1 ⟨rfl, hb1⟩
  have b1 := hb1
  clear hb1
  go_wp2_with fail
  refine (szShipmentS_any _ _ _ s _ _ (hrs.below b1) (by omega) hoks (by omega) (by have := Zs; omega)).mono ?_; rw [szRes_yes (by have := Zs; omega)]; rintro e w2 ⟨rfl, hb2⟩
  have b2 := below_then b1 hb2
  clear hb2 b1
  go_wp2_with fail
  refine (szStringS_any _ _ _ c _ _ (hrc.below b2) (by omega) hokc (by omega) (by have := Zc; omega)).mono ?_; rw [szRes_yes (by have := Zc; omega)]; rintro e w3 ⟨rfl, hb3⟩
  have b3 := below_then b2 hb3
  clear hb3 b2
  have cz := Lib.hid b3.size
  go_wp2_with fail
  refine (toUseS_any _ _ _ u _ (hru.below b3) (by omega)).mono ?_; rintro e w4 ⟨A4, c4, rfl, X1, hb4⟩
  have b4 := below_then b3 hb4
  obtain ⟨lX1, uX1, CX1, cz, X1⟩ : ∃ a b : Nat, Hid (w.heap.size ≤ a ∧ a ≤ b) ∧ Hid (b ≤ w4.heap.size) ∧ Owns w4 a b [⟨56, 3, .slice A4 nu c4, nu, (u.flatMap usCell)⟩] := ⟨_, _, Lib.hid ⟨cz.out, hb4.size⟩, Lib.hid (Nat.le_refl _), Owns.one X1⟩
  clear hb4 b3
  go_wp2_with fail
  refine (toShipmentS_any _ _ _ s _ (hrs.below b4) (by omega)).mono ?_; rintro e w5 ⟨A5, c5, rfl, X2, hb5⟩
  have X1 := X1.below hb5
  have b5 := below_then b4 hb5
  obtain ⟨lX2, uX2, CX2, cz, X2⟩ : ∃ a b : Nat, Hid (uX1 ≤ a ∧ a ≤ b) ∧ Hid (b ≤ w5.heap.size) ∧ Owns w5 a b [⟨51, 2, .slice A5 ns c5, ns, (s.flatMap shCell)⟩] := ⟨_, _, Lib.hid ⟨cz.out, hb5.size⟩, Lib.hid (Nat.le_refl _), Owns.one X2⟩
  clear hb5 b4
  go_wp2_with fail
  refine (toStringS_any _ _ _ c _ (hrc.below b5) (by omega)).mono ?_; rintro e w6 ⟨A6, c6, rfl, X3, hb6⟩
  have X1 := X1.below hb6
  have X2 := X2.below hb6
  have b6 := below_then b5 hb6
  obtain ⟨lX3, uX3, CX3, cz, X3⟩ : ∃ a b : Nat, Hid (uX2 ≤ a ∧ a ≤ b) ∧ Hid (b ≤ w6.heap.size) ∧ Owns w6 a b [⟨9, 1, .slice A6 nc c6, nc, (c.flatMap stCell)⟩] := ⟨_, _, Lib.hid ⟨cz.out, hb6.size⟩, Lib.hid (Nat.le_refl _), Owns.one X3⟩
  clear hb6 b5
  go_wp2_with fail
  refine (specSuspectsOf _ _ _ u _ _ _ s _ _ _ c _ (RS.of_own X1.own1) (by omega) (RS.of_own X2.own1) (by omega) (RS.of_own X3.own1) (by omega) (fun y hy => ⟨(hoku y hy).1, (hoku y hy).2.1⟩) (fun y hy => hoks y hy)).mono ?_; rw [HO.out, HM.out]; rintro e w7 ⟨A7, c7, rfl, W, hb7⟩
  have X1 := X1.below hb7
  have X2 := X2.below hb7
  have X3 := X3.below hb7
  have b7 := below_then b6 hb7
  obtain ⟨lW, uW, CW, cz, W⟩ : ∃ a b : Nat, Hid (uX3 ≤ a ∧ a ≤ b) ∧ Hid (b ≤ w7.heap.size) ∧ Owns w7 a b [⟨9, 1, .slice A7 m c7, m, (out.flatMap stCell)⟩] := ⟨_, _, Lib.hid ⟨cz.out, hb7.size⟩, Lib.hid (Nat.le_refl _), Owns.one W⟩
  clear hb7 b6
  clear X1
  clear X2
  clear X3
  go_wp2_with fail
  refine (toUseS_any _ _ _ u _ (hru.below b7) (by omega)).mono ?_; rintro e w8 ⟨A8, c8, rfl, X4, hb8⟩
  have W := W.below hb8
  have b8 := below_then b7 hb8
  obtain ⟨lX4, uX4, CX4, cz, X4⟩ : ∃ a b : Nat, Hid (uW ≤ a ∧ a ≤ b) ∧ Hid (b ≤ w8.heap.size) ∧ Owns w8 a b [⟨56, 3, .slice A8 nu c8, nu, (u.flatMap usCell)⟩] := ⟨_, _, Lib.hid ⟨cz.out, hb8.size⟩, Lib.hid (Nat.le_refl _), Owns.one X4⟩
  clear hb8 b7
  go_wp2_with fail
  refine (toShipmentS_any _ _ _ s _ (hrs.below b8) (by omega)).mono ?_; rintro e w9 ⟨A9, c9, rfl, X5, hb9⟩
  have W := W.below hb9
  have X4 := X4.below hb9
  have b9 := below_then b8 hb9
  obtain ⟨lX5, uX5, CX5, cz, X5⟩ : ∃ a b : Nat, Hid (uX4 ≤ a ∧ a ≤ b) ∧ Hid (b ≤ w9.heap.size) ∧ Owns w9 a b [⟨51, 2, .slice A9 ns c9, ns, (s.flatMap shCell)⟩] := ⟨_, _, Lib.hid ⟨cz.out, hb9.size⟩, Lib.hid (Nat.le_refl _), Owns.one X5⟩
  clear hb9 b8
  go_wp2_with fail
  refine (toStringS_any _ _ _ c _ (hrc.below b9) (by omega)).mono ?_; rintro e w10 ⟨A10, c10, rfl, X6, hb10⟩
  have W := W.below hb10
  have X4 := X4.below hb10
  have X5 := X5.below hb10
  have b10 := below_then b9 hb10
  obtain ⟨lX6, uX6, CX6, cz, X6⟩ : ∃ a b : Nat, Hid (uX5 ≤ a ∧ a ≤ b) ∧ Hid (b ≤ w10.heap.size) ∧ Owns w10 a b [⟨9, 1, .slice A10 nc c10, nc, (c.flatMap stCell)⟩] := ⟨_, _, Lib.hid ⟨cz.out, hb10.size⟩, Lib.hid (Nat.le_refl _), Owns.one X6⟩
  clear hb10 b9
  go_wp2_with fail
  refine (implSuspectsOf _ _ _ u _ _ _ s _ _ _ c _ (RS.of_own X4.own1) (by omega) (RS.of_own X5.own1) (by omega) (RS.of_own X6.own1) (by omega) (fun y hy => ⟨(hoku y hy).1, (hoku y hy).2.1⟩) (fun y hy => hoks y hy)).mono ?_; rw [HO.out, HM.out]; rintro e w11 ⟨A11, c11, rfl, R, hb11⟩
  have W := W.below hb11
  have X4 := X4.below hb11
  have X5 := X5.below hb11
  have X6 := X6.below hb11
  have b11 := below_then b10 hb11
  obtain ⟨lR, uR, CR, cz, R⟩ : ∃ a b : Nat, Hid (uX6 ≤ a ∧ a ≤ b) ∧ Hid (b ≤ w11.heap.size) ∧ Owns w11 a b [⟨9, 1, .slice A11 m c11, m, (out.flatMap stCell)⟩] := ⟨_, _, Lib.hid ⟨cz.out, hb11.size⟩, Lib.hid (Nat.le_refl _), Owns.one R⟩
  clear hb11 b10
  go_wp2_with fail
  refine (eqStringS_true _ _ _ out _ _ _ out _ (RS.of_own R.own1) (RS.of_own W.own1) (by omega) (by omega) rfl).mono ?_; rintro e w12 ⟨rfl, hb12⟩
  have W := W.below hb12
  have X4 := X4.below hb12
  have X5 := X5.below hb12
  have X6 := X6.below hb12
  have R := R.below hb12
  have b12 := below_then b11 hb12
  have cz := Lib.hid (Nat.le_trans cz.out hb12.size)
  clear hb12 b11
  go_wp2_with fail
  refine (toUseS_any _ _ _ u _ (hru.below b12) (by omega)).mono ?_; rintro e w13 ⟨A13, c13, rfl, X7, hb13⟩
  have W := W.below hb13
  have X4 := X4.below hb13
  have X5 := X5.below hb13
  have X6 := X6.below hb13
  have R := R.below hb13
  have b13 := below_then b12 hb13
  obtain ⟨lX7, uX7, CX7, cz, X7⟩ : ∃ a b : Nat, Hid (uR ≤ a ∧ a ≤ b) ∧ Hid (b ≤ w13.heap.size) ∧ Owns w13 a b [⟨56, 3, .slice A13 nu c13, nu, (u.flatMap usCell)⟩] := ⟨_, _, Lib.hid ⟨cz.out, hb13.size⟩, Lib.hid (Nat.le_refl _), Owns.one X7⟩
  clear hb13 b12
  go_wp2_with fail
  refine (eqUseS_true _ _ _ u _ _ _ u _ (RS.of_own X4.own1) (RS.of_own X7.own1) (by omega) (by omega) rfl).mono ?_; rintro e w14 ⟨rfl, hb14⟩
  have W := W.below hb14
  have X4 := X4.below hb14
  have X5 := X5.below hb14
  have X6 := X6.below hb14
  have R := R.below hb14
  have X7 := X7.below hb14
  have b14 := below_then b13 hb14
  have cz := Lib.hid (Nat.le_trans cz.out hb14.size)
  clear hb14 b13
  clear X7
  go_wp2_with fail
  refine (toShipmentS_any _ _ _ s _ (hrs.below b14) (by omega)).mono ?_; rintro e w15 ⟨A15, c15, rfl, X8, hb15⟩
  have W := W.below hb15
  have X4 := X4.below hb15
  have X5 := X5.below hb15
  have X6 := X6.below hb15
  have R := R.below hb15
  have b15 := below_then b14 hb15
  obtain ⟨lX8, uX8, CX8, cz, X8⟩ : ∃ a b : Nat, Hid (uX7 ≤ a ∧ a ≤ b) ∧ Hid (b ≤ w15.heap.size) ∧ Owns w15 a b [⟨51, 2, .slice A15 ns c15, ns, (s.flatMap shCell)⟩] := ⟨_, _, Lib.hid ⟨cz.out, hb15.size⟩, Lib.hid (Nat.le_refl _), Owns.one X8⟩
  clear hb15 b14
  go_wp2_with fail
  refine (eqShipmentS_true _ _ _ s _ _ _ s _ (RS.of_own X5.own1) (RS.of_own X8.own1) (by omega) (by omega) rfl).mono ?_; rintro e w16 ⟨rfl, hb16⟩
  have W := W.below hb16
  have X4 := X4.below hb16
  have X5 := X5.below hb16
  have X6 := X6.below hb16
  have R := R.below hb16
  have X8 := X8.below hb16
  have b16 := below_then b15 hb16
  have cz := Lib.hid (Nat.le_trans cz.out hb16.size)
  clear hb16 b15
  clear X8
  go_wp2_with fail
  refine (toStringS_any _ _ _ c _ (hrc.below b16) (by omega)).mono ?_; rintro e w17 ⟨A17, c17, rfl, X9, hb17⟩
  have W := W.below hb17
  have X4 := X4.below hb17
  have X5 := X5.below hb17
  have X6 := X6.below hb17
  have R := R.below hb17
  have b17 := below_then b16 hb17
  obtain ⟨lX9, uX9, CX9, cz, X9⟩ : ∃ a b : Nat, Hid (uX8 ≤ a ∧ a ≤ b) ∧ Hid (b ≤ w17.heap.size) ∧ Owns w17 a b [⟨9, 1, .slice A17 nc c17, nc, (c.flatMap stCell)⟩] := ⟨_, _, Lib.hid ⟨cz.out, hb17.size⟩, Lib.hid (Nat.le_refl _), Owns.one X9⟩
  clear hb17 b16
  go_wp2_with fail
  refine (eqStringS_true _ _ _ c _ _ _ c _ (RS.of_own X6.own1) (RS.of_own X9.own1) (by omega) (by omega) rfl).mono ?_; rintro e w18 ⟨rfl, hb18⟩
  have W := W.below hb18
  have X4 := X4.below hb18
  have X5 := X5.below hb18
  have X6 := X6.below hb18
  have R := R.below hb18
  have X9 := X9.below hb18
  have b18 := below_then b17 hb18
  have cz := Lib.hid (Nat.le_trans cz.out hb18.size)
  clear hb18 b17
  clear X9
  go_wp2_with fail
  refine (markUseS_any _ _ _ _ _ (1) _ X4.own1 (by omega) (by omega) (by omega)).mono ?_; rintro e w19 ⟨rfl, MX4, hg19⟩
  have NX4 : Owns w19 lX4 uX4 [⟨56, 3, .slice A8 nu c8, nu, _⟩] := X4.turnIn (i := 0) rfl hg19 MX4 rfl
  have hw19 := X4.within_of (i := 0) rfl hg19
  clear hg19 MX4
  have W := W.within hw19 (by have := CX1.out; have := CX2.out; have := CX3.out; have := CW.out; have := CX4.out; have := CX5.out; have := CX6.out; have := CR.out; have := CX7.out; have := CX8.out; have := CX9.out; omega)
  have X5 := X5.within hw19 (by have := CX1.out; have := CX2.out; have := CX3.out; have := CW.out; have := CX4.out; have := CX5.out; have := CX6.out; have := CR.out; have := CX7.out; have := CX8.out; have := CX9.out; omega)
  have X6 := X6.within hw19 (by have := CX1.out; have := CX2.out; have := CX3.out; have := CW.out; have := CX4.out; have := CX5.out; have := CX6.out; have := CR.out; have := CX7.out; have := CX8.out; have := CX9.out; omega)
  have R := R.within hw19 (by have := CX1.out; have := CX2.out; have := CX3.out; have := CW.out; have := CX4.out; have := CX5.out; have := CX6.out; have := CR.out; have := CX7.out; have := CX8.out; have := CX9.out; omega)
  have b19 := below_within b18 hw19 (by have := CX1.out; have := CX2.out; have := CX3.out; have := CW.out; have := CX4.out; have := CX5.out; have := CX6.out; have := CR.out; have := CX7.out; have := CX8.out; have := CX9.out; omega) b18.size
  have cz := Lib.hid (Nat.le_trans cz.out hw19.size)
  clear hw19 X4 b18
  have X4 := NX4
  clear NX4
  go_wp2_with fail
  refine (markShipmentS_any _ _ _ _ _ (1 + nu * 3) _ X5.own1 (by omega) (by omega) (by omega)).mono ?_; rintro e w20 ⟨rfl, MX5, hg20⟩
  have NX5 : Owns w20 lX5 uX5 [⟨51, 2, .slice A9 ns c9, ns, _⟩] := X5.turnIn (i := 0) rfl hg20 MX5 rfl
  have hw20 := X5.within_of (i := 0) rfl hg20
  clear hg20 MX5
  have W := W.within hw20 (by have := CX1.out; have := CX2.out; have := CX3.out; have := CW.out; have := CX4.out; have := CX5.out; have := CX6.out; have := CR.out; have := CX7.out; have := CX8.out; have := CX9.out; omega)
  have X4 := X4.within hw20 (by have := CX1.out; have := CX2.out; have := CX3.out; have := CW.out; have := CX4.out; have := CX5.out; have := CX6.out; have := CR.out; have := CX7.out; have := CX8.out; have := CX9.out; omega)
  have X6 := X6.within hw20 (by have := CX1.out; have := CX2.out; have := CX3.out; have := CW.out; have := CX4.out; have := CX5.out; have := CX6.out; have := CR.out; have := CX7.out; have := CX8.out; have := CX9.out; omega)
  have R := R.within hw20 (by have := CX1.out; have := CX2.out; have := CX3.out; have := CW.out; have := CX4.out; have := CX5.out; have := CX6.out; have := CR.out; have := CX7.out; have := CX8.out; have := CX9.out; omega)
  have b20 := below_within b19 hw20 (by have := CX1.out; have := CX2.out; have := CX3.out; have := CW.out; have := CX4.out; have := CX5.out; have := CX6.out; have := CR.out; have := CX7.out; have := CX8.out; have := CX9.out; omega) b19.size
  have cz := Lib.hid (Nat.le_trans cz.out hw20.size)
  clear hw20 X5 b19
  have X5 := NX5
  clear NX5
  go_wp2_with fail
  refine (markStringS_any _ _ _ _ _ (1 + nu * 3 + ns * 2) _ X6.own1 (by omega) (by omega) (by omega)).mono ?_; rintro e w21 ⟨rfl, MX6, hg21⟩
  have NX6 : Owns w21 lX6 uX6 [⟨9, 1, .slice A10 nc c10, nc, _⟩] := X6.turnIn (i := 0) rfl hg21 MX6 rfl
  have hw21 := X6.within_of (i := 0) rfl hg21
  clear hg21 MX6
  have W := W.within hw21 (by have := CX1.out; have := CX2.out; have := CX3.out; have := CW.out; have := CX4.out; have := CX5.out; have := CX6.out; have := CR.out; have := CX7.out; have := CX8.out; have := CX9.out; omega)
  have X4 := X4.within hw21 (by have := CX1.out; have := CX2.out; have := CX3.out; have := CW.out; have := CX4.out; have := CX5.out; have := CX6.out; have := CR.out; have := CX7.out; have := CX8.out; have := CX9.out; omega)
  have X5 := X5.within hw21 (by have := CX1.out; have := CX2.out; have := CX3.out; have := CW.out; have := CX4.out; have := CX5.out; have := CX6.out; have := CR.out; have := CX7.out; have := CX8.out; have := CX9.out; omega)
  have R := R.within hw21 (by have := CX1.out; have := CX2.out; have := CX3.out; have := CW.out; have := CX4.out; have := CX5.out; have := CX6.out; have := CR.out; have := CX7.out; have := CX8.out; have := CX9.out; omega)
  have b21 := below_within b20 hw21 (by have := CX1.out; have := CX2.out; have := CX3.out; have := CW.out; have := CX4.out; have := CX5.out; have := CX6.out; have := CR.out; have := CX7.out; have := CX8.out; have := CX9.out; omega) b20.size
  have cz := Lib.hid (Nat.le_trans cz.out hw21.size)
  clear hw21 X6 b20
  have X6 := NX6
  clear NX6
  have gk : ¬ ((1 + nu * 3 + ns * 2 + nc : Int) < 0) := by omega
  clear X4
  clear X5
  clear X6
  go_wp2_with fail
  refine (eqStringS_true _ _ _ out _ _ _ out _ (RS.of_own R.own1) (RS.of_own W.own1) (by omega) (by omega) rfl).mono ?_; rintro e w22 ⟨rfl, hb22⟩
  have W := W.below hb22
  have R := R.below hb22
  have b22 := below_then b21 hb22
  have cz := Lib.hid (Nat.le_trans cz.out hb22.size)
  clear hb22 b21
  go_wp2_with fail
  refine (markStringS_any _ _ _ _ _ (1) _ R.own1 (by omega) (by omega) (by omega)).mono ?_; rintro e w23 ⟨rfl, MR, hg23⟩
  have NR : Owns w23 lR uR [⟨9, 1, .slice A11 m c11, m, _⟩] := R.turnIn (i := 0) rfl hg23 MR rfl
  have hw23 := R.within_of (i := 0) rfl hg23
  clear hg23 MR
  have W := W.within hw23 (by have := CX1.out; have := CX2.out; have := CX3.out; have := CW.out; have := CX4.out; have := CX5.out; have := CX6.out; have := CR.out; have := CX7.out; have := CX8.out; have := CX9.out; omega)
  have b23 := below_within b22 hw23 (by have := CX1.out; have := CX2.out; have := CX3.out; have := CW.out; have := CX4.out; have := CX5.out; have := CX6.out; have := CR.out; have := CX7.out; have := CX8.out; have := CX9.out; omega) b22.size
  have cz := Lib.hid (Nat.le_trans cz.out hw23.size)
  clear hw23 R b22
  have R := NR
  clear NR
  go_wp2_with fail
  refine (heldStringS_any _ _ _ (1) _ (RS.of_own R.own1) (by omega) (by omega) (by omega)).mono ?_; rintro e w24 ⟨rfl, hb24⟩
  have W := W.below hb24
  have R := R.below hb24
  have b24 := below_then b23 hb24
  have cz := Lib.hid (Nat.le_trans cz.out hb24.size)
  clear hb24 b23
  go_wp2_with fail
  refine (toUseS_any _ _ _ u _ (hru.below b24) (by omega)).mono ?_; rintro e w25 ⟨A25, c25, rfl, X10, hb25⟩
  have W := W.below hb25
  have R := R.below hb25
  have b25 := below_then b24 hb25
  obtain ⟨lX10, uX10, CX10, cz, X10⟩ : ∃ a b : Nat, Hid (uX9 ≤ a ∧ a ≤ b) ∧ Hid (b ≤ w25.heap.size) ∧ Owns w25 a b [⟨56, 3, .slice A25 nu c25, nu, (u.flatMap usCell)⟩] := ⟨_, _, Lib.hid ⟨cz.out, hb25.size⟩, Lib.hid (Nat.le_refl _), Owns.one X10⟩
  clear hb25 b24
  go_wp2_with fail
  refine (toShipmentS_any _ _ _ s _ (hrs.below b25) (by omega)).mono ?_; rintro e w26 ⟨A26, c26, rfl, X11, hb26⟩
  have W := W.below hb26
  have R := R.below hb26
  have X10 := X10.below hb26
  have b26 := below_then b25 hb26
  obtain ⟨lX11, uX11, CX11, cz, X11⟩ : ∃ a b : Nat, Hid (uX10 ≤ a ∧ a ≤ b) ∧ Hid (b ≤ w26.heap.size) ∧ Owns w26 a b [⟨51, 2, .slice A26 ns c26, ns, (s.flatMap shCell)⟩] := ⟨_, _, Lib.hid ⟨cz.out, hb26.size⟩, Lib.hid (Nat.le_refl _), Owns.one X11⟩
  clear hb26 b25
  go_wp2_with fail
  refine (toStringS_any _ _ _ c _ (hrc.below b26) (by omega)).mono ?_; rintro e w27 ⟨A27, c27, rfl, X12, hb27⟩
  have W := W.below hb27
  have R := R.below hb27
  have X10 := X10.below hb27
  have X11 := X11.below hb27
  have b27 := below_then b26 hb27
  obtain ⟨lX12, uX12, CX12, cz, X12⟩ : ∃ a b : Nat, Hid (uX11 ≤ a ∧ a ≤ b) ∧ Hid (b ≤ w27.heap.size) ∧ Owns w27 a b [⟨9, 1, .slice A27 nc c27, nc, (c.flatMap stCell)⟩] := ⟨_, _, Lib.hid ⟨cz.out, hb27.size⟩, Lib.hid (Nat.le_refl _), Owns.one X12⟩
  clear hb27 b26
  go_wp2_with fail
  refine (implSuspectsOf _ _ _ u _ _ _ s _ _ _ c _ (RS.of_own X10.own1) (by omega) (RS.of_own X11.own1) (by omega) (RS.of_own X12.own1) (by omega) (fun y hy => ⟨(hoku y hy).1, (hoku y hy).2.1⟩) (fun y hy => hoks y hy)).mono ?_; rw [HO.out, HM.out]; rintro e w28 ⟨A28, c28, rfl, H, hb28⟩
  have W := W.below hb28
  have R := R.below hb28
  have X10 := X10.below hb28
  have X11 := X11.below hb28
  have X12 := X12.below hb28
  have b28 := below_then b27 hb28
  obtain ⟨lH, uH, CH, cz, H⟩ : ∃ a b : Nat, Hid (uX12 ≤ a ∧ a ≤ b) ∧ Hid (b ≤ w28.heap.size) ∧ Owns w28 a b [⟨9, 1, .slice A28 m c28, m, (out.flatMap stCell)⟩] := ⟨_, _, Lib.hid ⟨cz.out, hb28.size⟩, Lib.hid (Nat.le_refl _), Owns.one H⟩
  clear hb28 b27
  clear X10
  clear X11
  clear X12
  go_wp2_with fail
  refine (eqStringS_true _ _ _ out _ _ _ out _ (RS.of_own H.own1) (RS.of_own W.own1) (by omega) (by omega) rfl).mono ?_; rintro e w29 ⟨rfl, hb29⟩
  have W := W.below hb29
  have R := R.below hb29
  have H := H.below hb29
  have b29 := below_then b28 hb29
  have cz := Lib.hid (Nat.le_trans cz.out hb29.size)
  clear hb29 b28
  clear H
  clear W
  go_wp2_with fail
  refine (heldStringS_any _ _ _ (1) _ (RS.of_own R.own1) (by omega) (by omega) (by omega)).mono ?_; rintro e w30 ⟨rfl, hb30⟩
  have R := R.below hb30
  have b30 := below_then b29 hb30
  have cz := Lib.hid (Nat.le_trans cz.out hb30.size)
  clear hb30 b29
  go_wp2_with fail
  go_ret
  exact ⟨rfl, b30⟩

set_option maxRecDepth 100000 in
theorem lifted (os : Os) (started : os.Started) (H : Type) (enc : TypeId × Value → H) :
    ReturnsInHanded {} Try.checked os 6 .any (Rows.fnExactSuspectsOfSpec.pre6 enc Try.prog Try.f6 Rows.fnExactSuspectsOfRow.domain false) (Rows.fnExactSuspectsOfSpec.post enc Try.prog Try.f6 false true false false) := by
  refine returnsInHanded_of_change (C := Try.checked) Try.own started (by kernel_rfl) Try.func6
    (ChangeSpec.witness6 (enc := enc) (C := Try.checked) false ⟨#[], #[.slice none 0 0, .slice none 0 0, .slice none 0 0], []⟩ 8 (by kernel_rfl) (by kernel_rfl) (by kernel_rfl) (by kernel_rfl)) ?_
  intro W base args ds gs before hval0 hW hcnd _
  have hval : ∀ (j : Nat) t v, Try.f6.params[j]? = some t → args[j]? = some v → Value.okWide Try.prog W .any base t v := hval0
  have hW' := hW
  obtain ⟨p, q, hA0, hV, rfl, hfz, hnd⟩ := hW
  have hA : DataW.TrodAll enc Try.prog W 0 (fun _ => true) true Try.f6.params.toList args.toList ds p := hA0
  rw [Try.params6] at hA hval
  obtain ⟨v0, vs0, d0, ds0, p0, q0, hargs, rfl, rfl, h0, r0⟩ := trodAll_cons hA
  obtain ⟨v1, vs1, d1, ds1, p1, q1, rfl, rfl, rfl, h1, r1⟩ := trodAll_cons r0
  obtain ⟨v2, vs2, d2, ds2, p2, q2, rfl, rfl, rfl, h2, r2⟩ := trodAll_cons r1
  obtain ⟨rfl, rfl, rfl⟩ := trodAll_nil r2
  obtain rfl : args = #[v0, v1, v2] := by cases args; simp_all
  obtain ⟨rfl, rfl⟩ := trodVars_none hV
  obtain ⟨Au, nu, cu, u, rfl, hru, hnu, hoku⟩ := open_uss (hval 0 22 v0 rfl rfl) h0
  obtain ⟨As, ns, cs, s, rfl, hrs, hns, hoks⟩ := open_shs (hval 1 33 v1 rfl rfl) h1
  obtain ⟨Ac, nc, cc, c, rfl, hrc, hnc, hokc⟩ := open_strs (hval 2 24 v2 rfl rfl) h2
  refine (walk W Au nu cu u hru hnu hoku As ns cs s hrs hns hoks Ac nc cc c hrc hnc hokc).mono fun e W' ⟨he, hb⟩ => ?_
  subst he
  exact ⟨_, rfl, law_post Try.laidOut (by kernel_rfl) (by kernel_rfl) Try.underlying4 hW' rfl ⟨rfl, rfl, rfl⟩ hb⟩

theorem proved : Rows.FnExactSuspectsOfSaid :=
  OpenClaim.holds_of_wide 6 Try.f6 rfl rfl rfl rfl rfl rfl rfl ⟨rfl, rfl, rfl, rfl, rfl⟩ rfl rfl rfl rfl rfl (by kernel_rfl) Try.func6 (by kernel_rfl)
    (of_decide_eq_true (by kernel_rfl)) (by unfold Func.isWrapper; first | (rw [if_pos (by decide +kernel)]; kernel_rfl) | (rw [if_neg (by decide +kernel)]; exact ⟨rfl, rfl⟩))
    (fun os started H enc _ => lifted os started H enc)
#print axioms proved
end Go.Proofs.Ytaldlinekipblaa.fnExactSuspectsOf
