/- FnPosted returns true for all arguments, and leaves them as they were. No condition. -/
import Derived.Test.YtefhgilnfdmnlaaPostedP
import Derived.Test.YtefhgilnfdmnlaaDrawDoc
import Derived.Test.YtefhgilnfdmnlaaDrawOpen
namespace Go.Proofs.Ytefhgilnfdmnlaa.fnPosted
open Go.ChangeShapes Go.WideShapes Go.ChangeAt Go.RowKit

set_option maxRecDepth 100000 in
set_option maxHeartbeats 4000000 in
theorem walk (w : World) (A : Option Addr) (n c : Nat) (bs : List Int) (hr : RS w 1 A n (byteCells bs)) (hn : n ≤ 9223372036854775807) (hok : ∀ y ∈ bs, 0 ≤ y ∧ y < 256) :
    Calls Try.prog 7 #[.slice A n c] w fun e w' => e = .returned (.bool true) ∧ Below w.heap.size w w' := by
  by_cases hbig : 1048576 < n
  · go_enter Try.func7, Try.ntmps7
    go_wp2_with (go_at_call 30; refine (big_any _ _ _ _ hn).mono ?_; rw [decide_eq_true hbig]; rintro e w' ⟨rfl, rfl⟩)
    go_ret
    exact ⟨rfl, Below.refl _ _⟩
  · go_enter Try.func7, Try.ntmps7
    go_wp2_with fail
    refine (big_any _ _ _ _ hn).mono ?_; rw [decide_eq_false hbig]; rintro e w' ⟨rfl, rfl⟩
    go_wp2_with fail
    refine (DrawPostEntries_any _ _ _ _ _ hr hok (by omega)).mono ?_; rintro e w1 ⟨A1, n1, c1, ds, day, B, m, d, es, rfl, rl, hn1, hsh, hday, re, hm, hes, b1⟩
    have SM := Lib.hid (short_small hsh)
    have SE := Lib.hid (show ∀ x ∈ es, x.acc.size ≤ 9223372036854775807 from fun x hx => by have := (hes x hx).1; omega)
    have hl := Lib.hid rl.len
    have hle := Lib.hid (re.flatLen enCell_len (by omega))
    clear hsh hes
    go_wp2_with fail
    refine (implPost A1 n1 c1 ds day B m d es _ rl (by omega) re (by omega) SM.out SE.out).mono ?_; rintro e w2 ⟨A2, c2, rfl, D2, hb2⟩
    have rl := rl.below hb2; have re := re.below hb2; have b2 := below_then b1 hb2; clear hb2 b1
    go_wp2_with fail
    refine (specPost A1 n1 c1 ds day B m d es _ rl (by omega) re (by omega) SM.out SE.out).mono ?_; rintro e w3 ⟨A3, c3, rfl, -, hb3⟩
    have rl := rl.below hb3; have re := re.below hb3; have rx := D2.read.below hb3; have b3 := below_then b2 hb3; clear hb3 b2 D2
    cases his : areDocs (withDoc ds day es)
    · have e0 : (postDocs ds day es).length = 0 := by rw [postDocs_no his]; rfl
      rw [e0]
      clear e0
      go_wp2_with fail
      go_ret
      exact ⟨rfl, b3⟩
    · obtain ⟨q1, q2, q3, q4, q5⟩ := areDocs_with his
      have e0 : postDocs ds day es = withDoc ds day es := postDocs_yes his
      have e1 : (withDoc ds day es).length = n1 + 1 := by rw [withDoc_len, hl.out]
      rw [e0, e1] at rx
      rw [e0, e1]
      have HIS := Lib.hid his
      have XSM := Lib.hid (docsSmall_with (day := day) SM.out (by rw [hle.out]; omega) SE.out)
      have BW := Lib.hid (balance_with his)
      have EB := Lib.hid (areEntries_bd q4)
      have WL := Lib.hid (with_last ds day es)
      clear his e0 e1 q1 q4
      go_wp2_with fail
      go_loopw [10] (fun i wr => ∃ k : Nat, k ≤ m ∧ i = .int .i64 k ∧ Below w3.heap.size w3 wr) (fun i _ => m - (intOf i).toNat)
      case atStart => exact ⟨0, Nat.zero_le _, rfl, Below.refl _ _⟩
      case round =>
        obtain ⟨k, hk, rfl, hb⟩ := hrel
        obtain ⟨wu, rfl⟩ : ∃ wu : World, wu = wr := ⟨_, rfl⟩
        by_cases hlt : k < m
        · obtain ⟨g, off, rfl, ⟨acc, amt⟩, hx, h0w, h1w⟩ := re.enAt hlt
          simp only at h0w
          have i1 : (0 : Int) ≤ k := by omega
          have i2 : (k : Int) < m := by omega
          clear h1w hx
          go_wp2_with fail
          go_loopw [11, 12] (fun t i wz => ∃ j : Nat, j ≤ m ∧ i = .int .i64 j ∧ t = .int .i64 (sumF (entHit acc) es j) ∧ Below w3.heap.size w3 wz) (fun _ i _ => m - (intOf i).toNat)
          case atStart => exact ⟨0, Nat.zero_le _, rfl, by rw [sumF_zero], hb⟩
          case round =>
            obtain ⟨j, hj, rfl, rfl, hz⟩ := hrel
            have eb := EB.out acc j (by rw [hle.out]; exact hj)
            have h0 := cell_keep hz h0w
            by_cases hlt2 : j < m
            · obtain ⟨g', off', hA, ⟨ac, am⟩, hx2, c0, c1⟩ := (re.below hz).enAt hlt2
              obtain ⟨rfl, rfl⟩ : g = g' ∧ off = off' := by simpa using hA
              simp only at c0 c1
              have j1 : (0 : Int) ≤ j := by omega
              have j2 : (j : Int) < m := by omega
              have eb2 := EB.out acc (j + 1) (by rw [hle.out]; omega)
              have SS := sumF_succ (entHit acc) hx2
              clear hx2 hA
              by_cases he : ac = acc
              · subst he
                have S2 := Lib.hid (show sumF (entHit ac) es (j + 1) = sumF (entHit ac) es j + am by rw [SS, entHit, if_pos rfl])
                rw [S2.out] at eb2
                clear SS
                go_wp2_with fail
                go_quiet (fail)
                go_wp2_with fail
                go_roundw
                case rel => exact ⟨j + 1, by omega, by go_num, by rw [S2.out], below_drewN hz _⟩
                case measure => simp [intOf]; omega
              · have S2 := Lib.hid (show sumF (entHit acc) es (j + 1) = sumF (entHit acc) es j by rw [SS, entHit, if_neg he]; simp)
                have ne1 := text_ne he
                have ne2 := text_neB he
                clear SS he eb2
                go_wp2_with fail
                go_quiet (fail)
                go_wp2_with fail
                go_roundw
                case rel => exact ⟨j + 1, by omega, by go_num, by rw [S2.out], below_drewN hz _⟩
                case measure => simp [intOf]; omega
            · obtain rfl : m = j := by omega
              obtain ⟨wz, rfl⟩ : ∃ x : World, x = wr := ⟨_, rfl⟩
              have rxz := rx.below hz
              have rlz := rl.below hz
              have bb := balance_bd ds acc 999
              have V1 : balanceOf (withDoc ds day es) acc 999 = balanceOf ds acc 999 + sumF (entHit acc) es m := by rw [BW.out, if_pos (by omega), sumAcc, hle.out]
              have nx : n1 + 1 ≤ 1048600 := by omega
              have nl : n1 ≤ 1048600 := by omega
              have XS := XSM.out; have LS := SM.out
              obtain ⟨v2, hv2⟩ : ∃ v, balanceOf ds acc 999 = v := ⟨_, rfl⟩
              obtain ⟨nn, hnn⟩ : ∃ v, sumF (entHit acc) es m = v := ⟨_, rfl⟩
              rw [hv2, hnn] at V1
              rw [hv2] at bb
              rw [hnn] at eb ⊢
              have HB : ∀ (x : WX) (A' : Option Addr) (n' c' : Nat) (t v : Int), (∃ ds', DocsR wz A' n' ds' ∧ n' ≤ 1048600 ∧ docsSmall ds' ∧ balanceOf ds' acc t = v) → Calls Try.prog 29 #[.slice A' n' c', .string acc, .int .i64 t] (wext wz x) fun e w' => e = .returned (.int .i64 v) ∧ ∃ y, w' = wext wz y := by
                rintro x A' n' c' t v ⟨ds', q1, q2, q3, rfl⟩
                exact ext_call (implBalance A' n' c' ds' acc t _ (q1.below (below_wext _ _)) q2 q3)
              have X1 : ∃ ds', DocsR wz A2 (n1 + 1) ds' ∧ n1 + 1 ≤ 1048600 ∧ docsSmall ds' ∧ balanceOf ds' acc 999 = v2 + nn := ⟨_, rxz, nx, XS, V1⟩
              have X2 : ∃ ds', DocsR wz A1 n1 ds' ∧ n1 ≤ 1048600 ∧ docsSmall ds' ∧ balanceOf ds' acc 999 = v2 := ⟨_, rlz, nl, LS, hv2⟩
              have a0 := cell_wext h0
              have HX1 := Lib.hid X1; have HX2 := Lib.hid X2; have HHB := Lib.hid HB
              clear X1 X2 HB V1 hnn hv2
              by_cases hd : 0 < day
              · have V3 : balanceOf (withDoc ds day es) acc (day - 1) = balanceOf ds acc (day - 1) := by rw [BW.out, if_neg (by omega)]; simp
                obtain ⟨v3, hv3⟩ : ∃ v, balanceOf ds acc (day - 1) = v := ⟨_, rfl⟩
                rw [hv3] at V3
                have X3 := Lib.hid (show ∃ ds', DocsR wz A2 (n1 + 1) ds' ∧ n1 + 1 ≤ 1048600 ∧ docsSmall ds' ∧ balanceOf ds' acc (day - 1) = v3 from ⟨_, rxz, nx, XS, V3⟩)
                have HS := Lib.hid (show ∀ x : WX, Calls Try.prog 28 #[.slice A1 n1 c1, .string acc, .int .i64 (day - 1)] (wext wz x) fun e w' => e = .returned (.int .i64 v3) ∧ ∃ y, w' = wext wz y from fun x => by
                  have := specBalance A1 n1 c1 ds acc (day - 1) (wext wz x) (rlz.below (below_wext wz x)) nl LS
                  rw [hv3] at this
                  exact ext_call this)
                have gd : decide (0 < day) = true := by simpa using hd
                clear V3 hv3
                go_wp2_with fail
                refine wp_region_ext (by kernel_rfl) (by kernel_rfl) ?_
                repeat (go_big_quiet_step (first | (go_at_call 29; exact HHB.out _ _ _ _ _ _ (by first | exact HX1.out | exact HX2.out | exact X3.out)) | (go_at_call 28; exact HS.out _)))
                refine wpQuiet_nil ?_
                intro _ hw'; obtain ⟨nq, hw''⟩ := hw'; subst hw''
                have b4 := hz.trans ((below_wext wz nq).mono hz.size)
                go_wp2_with fail
                go_roundw
                case rel => exact ⟨k + 1, by omega, by go_num, b4⟩
                case measure => simp [intOf]; omega
              · have gd : decide (0 < day) = false := by simpa using hd
                go_wp2_with fail
                refine wp_region_ext (by kernel_rfl) (by kernel_rfl) ?_
                repeat (go_big_quiet_step (first | (go_at_call 29; exact HHB.out _ _ _ _ _ _ (by first | exact HX1.out | exact HX2.out))))
                refine wpQuiet_nil ?_
                intro _ hw'; obtain ⟨nq, hw''⟩ := hw'; subst hw''
                have b4 := hz.trans ((below_wext wz nq).mono hz.size)
                go_wp2_with fail
                go_roundw
                case rel => exact ⟨k + 1, by omega, by go_num, b4⟩
                case measure => simp [intOf]; omega
        · have rxz := rx.below hb
          have bb := below_then b3 hb
          clear b3
          go_wp2_with fail
          refine (specAreDocs A2 (n1 + 1) c2 _ _ rxz (by omega) XSM.out).mono ?_; rw [HIS.out]; rintro e w5 ⟨rfl, hb5⟩
          have rxz := rxz.below hb5
          have b5 := below_then bb hb5
          obtain ⟨g, off, rfl, d', eA, en, ec, hx, h0, h1, h2, hre⟩ := rxz.docAt (k := n1) (by omega)
          have hd := WL.out
          rw [hl.out, hx] at hd
          injection hd with hd
          subst hd
          simp only at h0
          clear h1 h2 hre hx
          have i1 : (0 : Int) ≤ n1 := by omega
          have i2 : (n1 : Int) < n1 + 1 := by omega
          go_wp2_with fail
          go_ret
          exact ⟨rfl, b5⟩
set_option maxRecDepth 100000 in
theorem lifted (os : Os) (started : os.Started) (H : Type) (enc : TypeId × Value → H) :
    ReturnsInHanded {} Try.checked os 7 .any (Rows.fnPostedSpec.pre6 enc Try.prog Try.f7 Rows.fnPostedRow.domain false) (Rows.fnPostedSpec.post enc Try.prog Try.f7 false true false false) := by
  refine returnsInHanded_of_change (C := Try.checked) Try.own started (by kernel_rfl) Try.func7
    (ChangeSpec.witness6 (enc := enc) (C := Try.checked) false ⟨#[], #[.slice none 0 0], []⟩ 8 (by kernel_rfl) (by kernel_rfl) (by kernel_rfl) (by kernel_rfl)) ?_
  intro W base args ds gs before hval0 hW hcnd _
  have hval : ∀ (j : Nat) t v, Try.f7.params[j]? = some t → args[j]? = some v → Value.okWide Try.prog W .any base t v := hval0
  have hW' := hW
  obtain ⟨p, q, hA0, hV, rfl, hfz, hnd⟩ := hW
  have hA : DataW.TrodAll enc Try.prog W 0 (fun _ => true) true Try.f7.params.toList args.toList ds p := hA0
  rw [Try.params7] at hA hval
  obtain ⟨v0, vs0, d0, ds0, p0, q0, hargs, rfl, rfl, h0, r0⟩ := trodAll_cons hA
  obtain ⟨rfl, rfl, rfl⟩ := trodAll_nil r0
  obtain rfl : args = #[v0] := by cases args; simp_all
  obtain ⟨rfl, rfl⟩ := trodVars_none hV
  obtain ⟨Acode, ncode, ccode, code, rfl, hrcode, hncode, hokcode⟩ := open_bytes (hval 0 40 v0 rfl rfl) h0
  refine (walk W Acode ncode ccode code hrcode hncode hokcode).mono fun e W' ⟨he, hb⟩ => ?_
  subst he
  exact ⟨_, rfl, law_post Try.laidOut (by kernel_rfl) (by kernel_rfl) Try.underlying4 hW' rfl ⟨rfl, rfl, rfl⟩ hb⟩

theorem proved : Rows.FnPostedSaid :=
  OpenClaim.holds_of_wide 7 Try.f7 rfl rfl rfl rfl rfl rfl rfl ⟨rfl, rfl, rfl, rfl, rfl⟩ rfl rfl rfl rfl rfl (by kernel_rfl) Try.func7 (by kernel_rfl)
    (of_decide_eq_true (by kernel_rfl)) (by unfold Func.isWrapper; first | (rw [if_pos (by decide +kernel)]; kernel_rfl) | (rw [if_neg (by decide +kernel)]; exact ⟨rfl, rfl⟩))
    (fun os started H enc _ => lifted os started H enc)
#print axioms proved
end Go.Proofs.Ytefhgilnfdmnlaa.fnPosted
