/- FnTrials returns true for all arguments, and leaves them as they were. No condition. -/
import Derived.Test.YtefhgilnfdmnlaaTrialsP
import Derived.Test.YtefhgilnfdmnlaaReverse
import Derived.Test.YtefhgilnfdmnlaaDrawDoc
import Derived.Test.YtefhgilnfdmnlaaDrawOpen
import Derived.Laws.Cover1
namespace Go.Proofs.Ytefhgilnfdmnlaa.fnTrials
open Go.ChangeShapes Go.WideShapes Go.ChangeAt Go.RowKit

set_option maxRecDepth 100000 in
set_option maxHeartbeats 4000000 in
theorem walk (w : World) (A : Option Addr) (n c : Nat) (bs : List Int) (hr : RS w 1 A n (byteCells bs)) (hn : n ≤ 9223372036854775807) (hok : ∀ y ∈ bs, 0 ≤ y ∧ y < 256) :
    Calls Try.prog 11 #[.slice A n c] w fun e w' => e = .returned (.bool true) ∧ Below w.heap.size w w' := by
  by_cases hbig : 1048576 < n
  · go_enter Try.func11, Try.ntmps11
    go_wp2_with (go_at_call 30; refine (big_any _ _ _ _ hn).mono ?_; rw [decide_eq_true hbig]; rintro e w' ⟨rfl, rfl⟩)
    go_ret
    exact ⟨rfl, Below.refl _ _⟩
  · go_enter Try.func11, Try.ntmps11
    go_wp2_with fail
    refine (big_any _ _ _ _ hn).mono ?_; rw [decide_eq_false hbig]; rintro e w' ⟨rfl, rfl⟩
    go_wp2_with fail
    refine (DrawTrialBalance_any _ _ _ _ _ hr hok (by omega)).mono ?_; rintro e w1 ⟨A1, n1, c1, ds, day, rfl, rl, hn1, hsh, hday, b1⟩
    have SM := Lib.hid (short_small hsh)
    have hl := Lib.hid rl.len
    clear hsh
    go_wp2_with fail
    refine (implTrial A1 n1 c1 ds day _ rl (by omega) SM.out).mono ?_; rintro e w2 ⟨A2, c2, rfl, o2, hb2⟩
    have rl := rl.below hb2; have b2 := below_then b1 hb2; clear hb2 b1
    have CN := Lib.hid (trial_canon ds day)
    have TB := Lib.hid (fun x (hx : x ∈ trialDocs ds day) => trialDocs_bd (N := 5) (by rw [hl.out]; omega) hx)
    have TW := Lib.hid (fun x (hx : x ∈ trialDocs ds day) => wide_of (by rw [hl.out]; omega) hx)
    have TL := trialDocs_len2 (N := 5) (show ds.length ≤ 5 by rw [hl.out]; omega) day
    have TT := Lib.hid (tot_docs ds day)
    generalize trialDocs ds day = t at *
    obtain ⟨m, hm⟩ : ∃ m, t.length = m := ⟨_, rfl⟩
    rw [hm] at o2 TL ⊢
    have hlm := Lib.hid hm
    clear hm
    have rt := RS.of_own o2
    clear o2
    go_wp2_with fail
    go_loopw [6, 7] (fun s i wr => ∃ k : Nat, k ≤ m ∧ i = .int .i64 k ∧ s = .int .i64 (amtS t k) ∧ -(k * 60000000000) ≤ amtS t k ∧ amtS t k ≤ k * 60000000000 ∧ Below w2.heap.size w2 wr) (fun _ i _ => m - (intOf i).toNat)
    case atStart => exact ⟨0, Nat.zero_le _, rfl, by rw [amtS, sumF_zero], by rw [amtS, sumF_zero]; omega, by rw [amtS, sumF_zero]; omega, Below.refl _ _⟩
    case round =>
      obtain ⟨k, hk, rfl, rfl, hs1, hs2, hb⟩ := hrel
      have rtz := rt.below hb
      have rlz := rl.below hb
      by_cases hlt : k < m
      · obtain ⟨g, off, rfl, ⟨acc, amt⟩, hx, h0, h1⟩ := rtz.enAt hlt
        simp only at h0 h1
        have AM := Lib.hid (show amtS t (k + 1) = amtS t k + amt from sumF_succ (fun x : En => x.amt) hx)
        have ab := TB.out _ (List.mem_of_getElem? hx)
        have cm := CN.out.2.1 _ (List.mem_of_getElem? hx)
        simp only at ab cm
        have HX := Lib.hid hx
        clear hx
        obtain ⟨cm0, cm1⟩ := cm
        have am0 : (amt == 0) = false := by simpa using cm0
        have LS := SM.out
        have HB := Lib.hid (show ∀ x : WX, Calls Try.prog 29 #[.slice A1 n1 c1, .string acc, .int .i64 day] (wext wr x) fun e w' => e = .returned (.int .i64 amt) ∧ ∃ y, w' = wext wr y from fun x => by
          have := implBalance A1 n1 c1 ds acc day (wext wr x) (rlz.below (below_wext wr x)) (by omega) LS
          rw [← cm1] at this
          exact ext_call this)
        have a0 := cell_wext h0; have a1 := cell_wext h1
        have i1 : (0 : Int) ≤ k := by omega
        have i2 : (k : Int) < m := by omega
        clear cm1 cm0
        by_cases hk0 : 0 < k
        · obtain ⟨k', rfl⟩ : ∃ k', k = k' + 1 := ⟨k - 1, by omega⟩
          obtain ⟨g', off', hA, ⟨ac, am⟩, hx2, p0, p1⟩ := rtz.enAt (k := k') (by omega)
          obtain ⟨rfl, rfl⟩ : g = g' ∧ off = off' := by simpa using hA
          simp only at p0
          have lt : Op.bytesLess ac.toList acc.toList = true := rising_at CN.out.1 hx2 HX.out
          have q0 := cell_wext p0
          clear hA hx2 p1
          have gk : decide (0 < k' + 1) = true := by simp
          have i3 : (0 : Int) ≤ k' := by omega
          have i4 : (k' : Int) < m := by omega
          go_wp2_with fail
          refine wp_region_ext (by kernel_rfl) (by kernel_rfl) ?_
          repeat (go_big_quiet_step (first | (go_at_call 29; exact HB.out _)))
          refine wpQuiet_nil ?_
          intro _ hw'; obtain ⟨nq, hw''⟩ := hw'; subst hw''
          have b4 := hb.trans ((below_wext wr nq).mono hb.size)
          go_wp2_with fail
          go_roundw
          case rel => exact ⟨k' + 1 + 1, by omega, by go_num, by rw [AM.out], by rw [AM.out]; omega, by rw [AM.out]; omega, b4⟩
          case measure => simp [intOf]; omega
        · have gk : decide (0 < k) = false := by simpa using hk0
          go_wp2_with fail
          refine wp_region_ext (by kernel_rfl) (by kernel_rfl) ?_
          repeat (go_big_quiet_step (first | (go_at_call 29; exact HB.out _)))
          refine wpQuiet_nil ?_
          intro _ hw'; obtain ⟨nq, hw''⟩ := hw'; subst hw''
          have b4 := hb.trans ((below_wext wr nq).mono hb.size)
          go_wp2_with fail
          go_roundw
          case rel => exact ⟨k + 1, by omega, by go_num, by rw [AM.out], by rw [AM.out]; omega, by rw [AM.out]; omega, b4⟩
          case measure => simp [intOf]; omega
      · obtain rfl : m = k := by omega
        obtain ⟨wv, rfl⟩ : ∃ x : World, x = wr := ⟨_, rfl⟩
        have bb := below_then b2 hb
        have Z := Lib.hid (show amtS t m = 0 by rw [← hlm.out, tot_amtS]; exact TT.out)
        rw [Z.out]
        clear hs1 hs2 b2 hb
        go_wp2_with fail
        obtain ⟨W0, hW0⟩ : ∃ W : World, W = wv.alloc (Obj.cells #[.string ⟨#[67, 65, 83, 72]⟩, .string ⟨#[83, 84, 79, 67, 75]⟩, .string ⟨#[83, 65, 76, 69, 83]⟩, .string ⟨#[67, 79, 83, 84]⟩, .string ⟨#[87, 79, 82, 75]⟩, .string ⟨#[83, 85, 80, 80, 76, 89]⟩] 9) := ⟨_, rfl⟩
        have rn0 := RS_new (w := wv) (cs := #[.string ⟨#[67, 65, 83, 72]⟩, .string ⟨#[83, 84, 79, 67, 75]⟩, .string ⟨#[83, 65, 76, 69, 83]⟩, .string ⟨#[67, 79, 83, 84]⟩, .string ⟨#[87, 79, 82, 75]⟩, .string ⟨#[83, 85, 80, 80, 76, 89]⟩]) (t := 9) (n := 6) (size := 1) (by simp)
        have bw0 : Below wv.heap.size wv W0 := by rw [hW0]; exact below_box _ _
        rw [← hW0] at rn0
        obtain ⟨NL, hNL⟩ : ∃ NL : List Value, (#[.string ⟨#[67, 65, 83, 72]⟩, .string ⟨#[83, 84, 79, 67, 75]⟩, .string ⟨#[83, 65, 76, 69, 83]⟩, .string ⟨#[67, 79, 83, 84]⟩, .string ⟨#[87, 79, 82, 75]⟩, .string ⟨#[83, 85, 80, 80, 76, 89]⟩] : Array Value).toList = NL := ⟨_, rfl⟩
        have SN := Lib.hid (show ∀ u ∈ NL, ShortText u from by
          intro u hu
          rw [← hNL] at hu
          simp only [List.mem_cons, List.not_mem_nil, or_false] at hu
          rcases hu with h | h | h | h | h | h <;> exact ⟨_, h, by decide⟩)
        rw [hNL] at rn0
        have RN := Lib.hid rn0
        clear hNL rn0
        have rtv := rtz.below bw0; have rlv := rlz.below bw0
        have bbv := below_then bb bw0
        clear rtz rlz bb bw0
        go_loopw [9] (fun i wr => ∃ k : Nat, k ≤ 6 ∧ i = .int .i64 k ∧ Below W0.heap.size W0 wr) (fun i _ => 6 - (intOf i).toNat)
        case atStart => exact ⟨0, by omega, rfl, by rw [hW0]; exact Below.refl _ _⟩
        case round =>
          obtain ⟨k, hk, rfl, hb⟩ := hrel
          clear hW0
          obtain ⟨wu, rfl⟩ : ∃ x : World, x = wr := ⟨_, rfl⟩
          by_cases hlt : k < 6
          · obtain ⟨gn, offn, hgn, hcn⟩ := (RN.out.below hb).at_ (by omega)
            simp at hgn
            obtain ⟨rfl, rfl⟩ := hgn
            obtain ⟨u, hu⟩ : ∃ u, NL[k]? = some u := ⟨_, List.getElem?_eq_getElem (by have := RN.out.len; omega)⟩
            obtain ⟨s, rfl, hs⟩ := SN.out u (List.mem_of_getElem? hu)
            have cn := hcn k _ hu
            rw [Nat.zero_add] at cn
            have i1 : (0 : Int) ≤ k := by omega
            have i2 : (k : Int) < 6 := by omega
            clear hcn hu
            have rtu := rtv.below hb; have rlu := rlv.below hb
            go_wp2_with fail
            go_loopw [10, 11] (fun f i wz => ∃ j : Nat, j ≤ m ∧ i = .int .i64 j ∧ f = .bool (hasAcc t s j) ∧ Below wu.heap.size wu wz) (fun _ i _ => m - (intOf i).toNat)
            case atStart => exact ⟨0, Nat.zero_le _, rfl, by rw [hasAcc_zero], Below.refl _ _⟩
            case round =>
              obtain ⟨j, hj, rfl, rfl, hz⟩ := hrel
              have cn := cell_keep hz cn
              by_cases hlt2 : j < m
              · obtain ⟨g, off, rfl, ⟨ac, am⟩, hx2, c0, c1⟩ := (rtu.below hz).enAt hlt2
                simp only at c0
                have HS := Lib.hid (hasAcc_succ (s := s) hx2)
                have j1 : (0 : Int) ≤ j := by omega
                have j2 : (j : Int) < m := by omega
                clear c1 hx2
                simp only at HS
                cases hf : hasAcc t s j
                · by_cases he : ac = s
                  · subst he
                    have H2 := Lib.hid (show hasAcc t ac (j + 1) = true by rw [HS.out, hf]; simp)
                    clear hf
                    go_wp2_with fail
                    go_quiet (fail)
                    go_wp2_with fail
                    go_roundw
                    case rel => exact ⟨j + 1, by omega, by go_num, by rw [H2.out], below_drewN hz _⟩
                    case measure => simp [intOf]; omega
                  · have H2 := Lib.hid (show hasAcc t s (j + 1) = false by rw [HS.out, hf]; simpa using he)
                    have ne1 := text_ne he
                    have ne2 := text_neB he
                    clear hf he
                    go_wp2_with fail
                    go_quiet (fail)
                    go_wp2_with fail
                    go_roundw
                    case rel => exact ⟨j + 1, by omega, by go_num, by rw [H2.out], below_drewN hz _⟩
                    case measure => simp [intOf]; omega
                · have H2 := Lib.hid (show hasAcc t s (j + 1) = true by rw [HS.out, hf]; rfl)
                  clear hf
                  go_wp2_with fail
                  go_quiet (fail)
                  go_wp2_with fail
                  go_roundw
                  case rel => exact ⟨j + 1, by omega, by go_num, by rw [H2.out], below_drewN hz _⟩
                  case measure => simp [intOf]; omega
              · obtain rfl : m = j := by omega
                have HA : hasAcc t s m = (balanceOf ds s day != 0) := by have := hasAcc_all CN.out s; rw [hlm.out] at this; exact this
                rw [HA]
                clear HA
                have bz := hb.trans (hz.mono hb.size)
                go_wp2_with fail
                refine (specBalance A1 n1 c1 ds s day _ (rlu.below hz) (by omega) SM.out).mono ?_; rintro e w5 ⟨rfl, hb5⟩
                have b5 := below_app bz hb5 bz.size
                obtain ⟨v, hv⟩ : ∃ v, balanceOf ds s day = v := ⟨_, rfl⟩
                rw [hv]
                clear hv
                go_wp2_with fail
                go_roundw
                case rel => exact ⟨k + 1, by omega, by go_num, b5⟩
                case measure => simp [intOf]; omega
          · obtain rfl : k = 6 := by omega
            obtain ⟨q1, q2⟩ := add_neg TW.out (by rw [hlm.out]; omega)
            have Q1 := Lib.hid q1; have Q2 := Lib.hid q2
            clear q1 q2
            have TZ := Lib.hid (show ∀ x ∈ t, x.acc.size ≤ 9223372036854775807 from fun x hx => by
              have := TW.out x hx
              simp only [enWide, Bool.and_eq_true] at this
              have := (isCode_len this.1).2
              omega)
            have NZ := Lib.hid (negEn_ok TZ.out)
            have NL2 := Lib.hid (negEn_len t)
            have rtu := rtv.below hb
            go_wp2_with fail
            refine (implNegate _ _ _ t _ rtu (by omega)).mono ?_; rw [NL2.out, hlm.out]; rintro e w6 ⟨A6, c6, rfl, o6, hb6⟩
            have b6 := below_app hb hb6 hb.size
            go_wp2_with fail
            refine (implAddE _ _ _ t _ _ _ (negEn t) _ (rtu.below hb6) (by omega) (RS.of_own o6) (by omega) TZ.out NZ.out).mono ?_; rw [Q1.out, Q2.out]; rintro e w7 ⟨A7, c7, rfl, o7, hb7⟩
            have b7 := below_app b6 hb7 b6.size
            go_wp2_with fail
            go_ret
            exact ⟨rfl, below_then bbv b7⟩
set_option maxRecDepth 100000 in
theorem lifted (os : Os) (started : os.Started) (H : Type) (enc : TypeId × Value → H) :
    ReturnsInHanded {} Try.checked os 11 .any (Rows.fnTrialsSpec.pre6 enc Try.prog Try.f11 Rows.fnTrialsRow.domain false) (Rows.fnTrialsSpec.post enc Try.prog Try.f11 false true false false) := by
  refine returnsInHanded_of_change (C := Try.checked) Try.own started (by kernel_rfl) Try.func11
    (ChangeSpec.witness6 (enc := enc) (C := Try.checked) false ⟨#[], #[.slice none 0 0], []⟩ 8 (by kernel_rfl) (by kernel_rfl) (by kernel_rfl) (by kernel_rfl)) ?_
  intro W base args ds gs before hval0 hW hcnd _
  have hval : ∀ (j : Nat) t v, Try.f11.params[j]? = some t → args[j]? = some v → Value.okWide Try.prog W .any base t v := hval0
  have hW' := hW
  obtain ⟨p, q, hA0, hV, rfl, hfz, hnd⟩ := hW
  have hA : DataW.TrodAll enc Try.prog W 0 (fun _ => true) true Try.f11.params.toList args.toList ds p := hA0
  rw [Try.params11] at hA hval
  obtain ⟨v0, vs0, d0, ds0, p0, q0, hargs, rfl, rfl, h0, r0⟩ := trodAll_cons hA
  obtain ⟨rfl, rfl, rfl⟩ := trodAll_nil r0
  obtain rfl : args = #[v0] := by cases args; simp_all
  obtain ⟨rfl, rfl⟩ := trodVars_none hV
  obtain ⟨Acode, ncode, ccode, code, rfl, hrcode, hncode, hokcode⟩ := open_bytes (hval 0 40 v0 rfl rfl) h0
  refine (walk W Acode ncode ccode code hrcode hncode hokcode).mono fun e W' ⟨he, hb⟩ => ?_
  subst he
  exact ⟨_, rfl, law_post Try.laidOut (by kernel_rfl) (by kernel_rfl) Try.underlying4 hW' rfl ⟨rfl, rfl, rfl⟩ hb⟩

theorem proved : Rows.FnTrialsSaid :=
  OpenClaim.holds_of_wide 11 Try.f11 rfl rfl rfl rfl rfl rfl rfl ⟨rfl, rfl, rfl, rfl, rfl⟩ rfl rfl rfl rfl rfl (by kernel_rfl) Try.func11 (by kernel_rfl)
    (of_decide_eq_true (by kernel_rfl)) (by unfold Func.isWrapper; first | (rw [if_pos (by decide +kernel)]; kernel_rfl) | (rw [if_neg (by decide +kernel)]; exact ⟨rfl, rfl⟩))
    (fun os started H enc _ => lifted os started H enc)
#print axioms proved
end Go.Proofs.Ytefhgilnfdmnlaa.fnTrials
