/- FnReversed returns true for all arguments, and leaves them as they were. No condition. -/
import Derived.Test.YtefhgilnfdmnlaaReversedP
import Derived.Test.YtefhgilnfdmnlaaDrawDoc
import Derived.Test.YtefhgilnfdmnlaaDrawOpen
import Derived.Deep.RegionHeld3
namespace Go.Proofs.Ytefhgilnfdmnlaa.fnReversed
open Go.ChangeShapes Go.WideShapes Go.ChangeAt Go.RowKit

set_option maxRecDepth 100000 in
set_option maxHeartbeats 4000000 in
theorem walk (w : World) (A : Option Addr) (n c : Nat) (bs : List Int) (hr : RS w 1 A n (byteCells bs)) (hn : n ≤ 9223372036854775807) (hok : ∀ y ∈ bs, 0 ≤ y ∧ y < 256) :
    Calls Try.prog 13 #[.slice A n c] w fun e w' => e = .returned (.bool true) ∧ Below w.heap.size w w' := by
  by_cases hbig : 1048576 < n
  · go_enter Try.func13, Try.ntmps13
    go_wp2_with (go_at_call 30; refine (big_any _ _ _ _ hn).mono ?_; rw [decide_eq_true hbig]; rintro e w' ⟨rfl, rfl⟩)
    go_ret
    exact ⟨rfl, Below.refl _ _⟩
  · go_enter Try.func13, Try.ntmps13
    go_wp2_with fail
    refine (big_any _ _ _ _ hn).mono ?_; rw [decide_eq_false hbig]; rintro e w' ⟨rfl, rfl⟩
    go_wp2_with fail
    refine (DrawReverseNumber_any _ _ _ _ _ hr hok (by omega)).mono ?_; rintro e w1 ⟨A1, n1, c1, ds, num, day, rfl, rl, hn1, hsh, hnum0, hnum1, hday, b1⟩
    have SM := Lib.hid (short_small hsh)
    have hl := Lib.hid rl.len
    clear hsh
    go_wp2_with fail
    refine (implReverse A1 n1 c1 ds num day _ rl (by omega) SM.out).mono ?_; rintro e w2 ⟨A2, c2, rfl, D2, hb2⟩
    have rl := rl.below hb2; have b2 := below_then b1 hb2; clear hb2 b1
    go_wp2_with fail
    refine (specReverse A1 n1 c1 ds num day _ rl (by omega) SM.out).mono ?_; rintro e w3 ⟨A3, c3, rfl, -, hb3⟩
    have rl := rl.below hb3; have rx := D2.read.below hb3; have b3 := below_then b2 hb3; clear hb3 b2 D2
    cases his : revOk ds num day
    · have e0 : (revDocs ds num day).length = 0 := by rw [revDocs_no his]; rfl
      rw [e0]
      clear e0
      go_wp2_with fail
      go_ret
      exact ⟨rfl, b3⟩
    · obtain ⟨k, es, rfl, R, e0⟩ := reversed_of his
      have e1 : (withDoc ds day (negEn es)).length = n1 + 1 := by rw [withDoc_len, hl.out]
      rw [e0, e1] at rx
      rw [e0, e1]
      have HR := Lib.hid R
      have XSM := Lib.hid (docsSmall_with (day := day) SM.out (by rw [negEn_len]; have := (areEntries_true R.good).2.2.2; omega) (negEn_ok (l := es) (fun x hx => by have := (isCode_len (enGood_amt ((areEntries_true R.good).1 x hx)).2.2.2).2; omega)))
      have ADD := R.added (by rw [hl.out]; omega)
      have A1' := Lib.hid ADD.1; have A2' := Lib.hid ADD.2
      have AG := Lib.hid (R.again day)
      rw [hl.out] at AG
      have E12 := (areEntries_true R.good).2.2.2
      have ESZ := Lib.hid (show ∀ x ∈ es, x.acc.size ≤ 9223372036854775807 from fun x hx => by have := (isCode_len (enGood_amt ((areEntries_true R.good).1 x hx)).2.2.2).2; omega)
      obtain ⟨d0, hd0, hde⟩ := R.at_
      have hk : k < n1 := by rw [← hl.out]; exact (List.getElem?_eq_some_iff.1 hd0).1
      obtain ⟨g, off, rfl, d1, eA, en, ec, hx, h0, h1, h2, hre⟩ := rl.docAt hk
      rw [hd0] at hx
      injection hx with hx
      subst hx
      rw [hde] at hre
      have hel := hre.flatLen enCell_len (by omega)
      have hen : en ≤ 12 := by omega
      have TLx := trialDocs_len2 (N := 6) (show (withDoc ds day (negEn es)).length ≤ 6 by rw [e1]; omega) 999
      have TCx := Lib.hid (show ∀ x ∈ trialDocs (withDoc ds day (negEn es)) 999, x.acc.size ≤ 9223372036854775807 from fun x hx => by have := (isCode_len (trialDocs_code hx)).2; omega)
      have TLd := trialDocs_len2 (N := 5) (show ds.length ≤ 5 by rw [hl.out]; omega) 999
      clear his e0 e1 R ADD hd0 hde h0 h1 hel E12
      generalize withDoc ds day (negEn es) = xd at *
      obtain ⟨tx, htx⟩ : ∃ t, trialDocs xd 999 = t := ⟨_, rfl⟩
      have HTX := Lib.hid htx
      rw [htx] at A1' A2' TLx TCx
      obtain ⟨td, htd⟩ : ∃ t, trialDocs ds 999 = t := ⟨_, rfl⟩
      have HTD := Lib.hid htd
      rw [htd] at A2' TLd AG
      clear htx htd
      have i1 : (0 : Int) ≤ k := by omega
      have i2 : (k : Int) < n1 := by omega
      have hw1 : IntKind.i64.wrap ((k : Int) + 1 - 1) = (k : Int) := by rw [show ((k : Int) + 1 - 1) = k by omega]; exact IntWalk.i64_in _ (by omega)
      have hw2 : IntKind.i64.wrap (k : Int) = (k : Int) := IntWalk.i64_in _ (by omega)
      go_wp2_with fail
      go_region_held3 (fun w' => w'.cell? ⟨g, off + k * 3 + 2, none⟩ = some (.slice eA en ec))
        (first
          | go_keep
          | (exact cell_keep hb4 ‹_›)
          | (exact cell_keep hb5 ‹_›))
        (first
          | (go_at_call 41; refine (implTrial A2 (n1 + 1) c2 xd 999 _ (rx.below ((Below.refl _ _).drew)) (by omega) XSM.out).mono ?_; rw [HTX.out]; rintro e w4 ⟨A4, c4, rfl, o4, hb4⟩)
          | (go_at_call 39; refine (implAddE A4 _ c4 tx eA en ec es _ (RS.of_own o4) (by omega) (hre.below (((Below.refl _ _).drew).trans hb4)) (by omega) TCx.out ESZ.out).mono ?_; rw [A1'.out, A2'.out]; rintro e w5 ⟨A5, c5, rfl, o5, hb5⟩))
      have bq := ((Below.refl w3.heap.size w3).drew.trans hb4).trans (hb5.mono hb4.size)
      have b5 := below_then b3 bq
      have rx5 := rx.below bq; have rl5 := rl.below bq
      have r5 := RS.of_own o5
      clear hb4 hb5 bq o4 o5 hre rx rl b3 h2
      go_wp2_with fail
      refine (implReverse A2 (n1 + 1) c2 xd _ day _ rx5 (by omega) XSM.out).mono ?_; rintro e w6 ⟨A6, c6, rfl, D6, hb6⟩
      have rl6 := rl5.below hb6; have r6 := r5.below hb6; have b6 := below_then b5 hb6; have ry := D6.read
      have SY := Lib.hid (rev_size2 xd ((n1 : Int) + 1) day)
      have YSM := Lib.hid (show docsSmall (revDocs xd ((n1 : Int) + 1) day) from rev_small XSM.out)
      clear hb6 b5 rx5 rl5 r5 D6
      cases htoo : revOk xd ((n1 : Int) + 1) day
      · clear ry
        go_wp2_with fail
        refine (specTrial _ n1 c1 ds 999 _ rl6 (by omega) SM.out).mono ?_; rw [HTD.out]; rintro e w7 ⟨A7, c7, rfl, o7, hb7⟩
        have b7 := below_then b6 hb7
        go_wp2_with fail
        refine (sameEntries_true _ _ _ td _ _ _ (r6.below hb7) (RS.of_own o7) (by omega)).mono ?_; rintro e w8 ⟨rfl, hb8⟩
        have b8 := below_then b7 hb8
        go_wp2_with fail
        go_ret
        exact ⟨rfl, b8⟩
      · have E := AG.out htoo
        have HE := Lib.hid E
        clear E
        go_wp2_with fail
        refine (specTrial _ n1 c1 ds 999 _ rl6 (by omega) SM.out).mono ?_; rw [HTD.out]; rintro e w7 ⟨A7, c7, rfl, o7, hb7⟩
        have b7 := below_then b6 hb7
        have rl7 := rl6.below hb7; have ry7 := ry.below hb7
        clear rl6 ry b6
        go_wp2_with fail
        refine (sameEntries_true _ _ _ td _ _ _ (r6.below hb7) (RS.of_own o7) (by omega)).mono ?_; rintro e w8 ⟨rfl, hb8⟩
        have b8 := below_then b7 hb8
        have rl8 := rl7.below hb8; have ry8 := ry7.below hb8
        clear rl7 ry7 b7 r6 o7 hb7 hb8
        go_wp2_with fail
        refine (implTrial _ _ c6 _ 999 _ ry8 (by have := SY.out.1; omega) YSM.out).mono ?_; rw [HE.out]; rintro e w9 ⟨A9, c9, rfl, o9, hb9⟩
        have b9 := below_then b8 hb9
        have rl9 := rl8.below hb9
        clear rl8 ry8 b8
        go_wp2_with fail
        refine (specTrial _ n1 c1 ds 999 _ rl9 (by omega) SM.out).mono ?_; rw [HTD.out]; rintro e w10 ⟨A10, c10, rfl, o10, hb10⟩
        have b10 := below_then b9 hb10
        go_wp2_with fail
        refine (sameEntries_true _ _ _ td _ _ _ ((RS.of_own o9).below hb10) (RS.of_own o10) (by omega)).mono ?_; rintro e w11 ⟨rfl, hb11⟩
        have b11 := below_then b10 hb11
        go_wp2_with fail
        go_ret
        exact ⟨rfl, b11⟩
set_option maxRecDepth 100000 in
theorem lifted (os : Os) (started : os.Started) (H : Type) (enc : TypeId × Value → H) :
    ReturnsInHanded {} Try.checked os 13 .any (Rows.fnReversedSpec.pre6 enc Try.prog Try.f13 Rows.fnReversedRow.domain false) (Rows.fnReversedSpec.post enc Try.prog Try.f13 false true false false) := by
  refine returnsInHanded_of_change (C := Try.checked) Try.own started (by kernel_rfl) Try.func13
    (ChangeSpec.witness6 (enc := enc) (C := Try.checked) false ⟨#[], #[.slice none 0 0], []⟩ 8 (by kernel_rfl) (by kernel_rfl) (by kernel_rfl) (by kernel_rfl)) ?_
  intro W base args ds gs before hval0 hW hcnd _
  have hval : ∀ (j : Nat) t v, Try.f13.params[j]? = some t → args[j]? = some v → Value.okWide Try.prog W .any base t v := hval0
  have hW' := hW
  obtain ⟨p, q, hA0, hV, rfl, hfz, hnd⟩ := hW
  have hA : DataW.TrodAll enc Try.prog W 0 (fun _ => true) true Try.f13.params.toList args.toList ds p := hA0
  rw [Try.params13] at hA hval
  obtain ⟨v0, vs0, d0, ds0, p0, q0, hargs, rfl, rfl, h0, r0⟩ := trodAll_cons hA
  obtain ⟨rfl, rfl, rfl⟩ := trodAll_nil r0
  obtain rfl : args = #[v0] := by cases args; simp_all
  obtain ⟨rfl, rfl⟩ := trodVars_none hV
  obtain ⟨Acode, ncode, ccode, code, rfl, hrcode, hncode, hokcode⟩ := open_bytes (hval 0 40 v0 rfl rfl) h0
  refine (walk W Acode ncode ccode code hrcode hncode hokcode).mono fun e W' ⟨he, hb⟩ => ?_
  subst he
  exact ⟨_, rfl, law_post Try.laidOut (by kernel_rfl) (by kernel_rfl) Try.underlying4 hW' rfl ⟨rfl, rfl, rfl⟩ hb⟩

theorem proved : Rows.FnReversedSaid :=
  OpenClaim.holds_of_wide 13 Try.f13 rfl rfl rfl rfl rfl rfl rfl ⟨rfl, rfl, rfl, rfl, rfl⟩ rfl rfl rfl rfl rfl (by kernel_rfl) Try.func13 (by kernel_rfl)
    (of_decide_eq_true (by kernel_rfl)) (by unfold Func.isWrapper; first | (rw [if_pos (by decide +kernel)]; kernel_rfl) | (rw [if_neg (by decide +kernel)]; exact ⟨rfl, rfl⟩))
    (fun os started H enc _ => lifted os started H enc)
#print axioms proved
end Go.Proofs.Ytefhgilnfdmnlaa.fnReversed
