/- FnSplits returns true for all arguments, and leaves them as they were. No condition. -/
import Derived.Test.YtijnkofnpoapnaaDrawSplit
import Derived.Test.YtijnkofnpoapnaaDrawOpen
import Derived.Test.YtijnkofnpoapnaaSplit
namespace Go.Proofs.Ytijnkofnpoapnaa.fnSplits
open Go.ChangeShapes Go.WideShapes Go.ChangeAt Go.RowKit

theorem split_true {q v : Int} {l : List Int} (h : splitOk q v l = true) : isPool q v = true ∧ 0 < q ∧ l.length ≤ 40 ∧ ups 1000000000 l ∧ l.sum = q := by
  simp only [splitOk, Bool.and_eq_true, decide_eq_true_eq] at h
  exact ⟨h.1, h.2.1, h.2.2.1, upB_ups h.2.2.2.1, h.2.2.2.2⟩
theorem split_at {q v x : Int} {l : List Int} {k n : Nat} (hk : k < n) (hx : l[k]? = some x) : (splitTo q v l n)[k]? = some ⟨x, v * (sumI l k + x) / q - v * sumI l k / q⟩ := by
  have e : l.getD k 0 = x := by rw [List.getD_eq_getElem?_getD, hx]; rfl
  simp only [splitTo, List.getElem?_map, List.getElem?_range hk, Option.map_some]
  rw [sumI_succ hx, e]

set_option maxRecDepth 100000 in
set_option maxHeartbeats 4000000 in
theorem walk (w : World) (A : Option Addr) (n c : Nat) (bs : List Int) (hr : RS w 1 A n (byteCells bs)) (hn : n ≤ 9223372036854775807) (hok : ∀ y ∈ bs, 0 ≤ y ∧ y < 256) :
    Calls Try.prog 7 #[.slice A n c] w fun e w' => e = .returned (.bool true) ∧ Below w.heap.size w w' := by
  by_cases hbig : 1048576 < n
  · go_enter Try.func7, Try.ntmps7
    go_wp2_with (go_at_call 28; refine (big_any _ _ _ _ hn).mono ?_; rw [decide_eq_true hbig]; rintro e w' ⟨rfl, rfl⟩)
    go_ret
    exact ⟨rfl, Below.refl _ _⟩
  · go_enter Try.func7, Try.ntmps7
    go_wp2_with fail
    refine (big_any _ _ _ _ hn).mono ?_; rw [decide_eq_false hbig]; rintro e w' ⟨rfl, rfl⟩
    go_wp2_with fail
    refine (DrawSplitPool_any _ _ _ _ _ hr hok (by omega)).mono ?_; rintro e w1 ⟨q, v, A1, n1, c1, l, rfl, hq, hv, r1, hn1, b1⟩
    have X := Lib.hid (blk_new1 w1 (Obj.cells #[.int .i64 q, .int .i64 v] 27))
    have bx := below_box w1 (Obj.cells #[.int .i64 q, .int .i64 v] 27)
    have r1 := r1.below bx
    have b1 := below_then b1 bx
    have x0 := blk_at X.out (j := 0) rfl; have x1 := blk_at X.out (j := 1) rfl
    have hl := Lib.hid r1.ints
    go_wp2_with fail
    refine (implSplit q v _ _ _ l _ r1 (by omega)).mono ?_; rintro e w2 ⟨A2, c2, rfl, o2, hb2⟩
    have rp := RS.of_own o2
    have r1 := r1.below hb2
    have X := Lib.hid (blk_keep hb2 X.out)
    have b2 := below_then b1 hb2
    clear o2 hb2 b1 x0 x1 bx
    have x0 := blk_at X.out (j := 0) rfl; have x1 := blk_at X.out (j := 1) rfl
    go_wp2_with fail
    refine (specSplit q v _ _ _ l _ r1 (by omega)).mono ?_; rintro e w3 ⟨A3, c3, rfl, o3, hb3⟩
    have rp := rp.below hb3
    have r1 := r1.below hb3
    have X := Lib.hid (blk_keep hb3 X.out)
    have b3 := below_then b2 hb3
    clear o3 hb3 b2 x0 x1
    cases is : splitOk q v l
    · rw [split_no is]
      clear is
      go_wp2_with fail
      go_ret
      exact ⟨rfl, b3⟩
    · obtain ⟨hp, q0, h40, hu, hs⟩ := split_true is
      have e : splitOut q v l = splitTo q v l n1 := by rw [splitOut, if_pos is, hl.out]
      rw [e] at rp ⊢
      have HP := Lib.hid hp; have HU := Lib.hid hu; have HS := Lib.hid hs
      have SA := Lib.hid (show sumI l n1 = q by rw [← hs, ← sumI_all, hl.out])
      have PL := Lib.hid (fun (j : Nat) (p : Po) (h : (splitTo q v l n1)[j]? = some p) => split_pool hp q0 hu hs (by rw [hl.out]; exact Nat.le_refl _) h)
      have pp := isPool_true hp
      have LL := Lib.hid (splitTo_len q v l n1)
      rw [LL.out] at rp ⊢
      clear is hp hu hs e
      have zn := Nat.zero_le n1
      go_wp2_with fail
      go_loopw [9, 10, 11] (fun t u i wr => ∃ k : Nat, k ≤ n1 ∧ i = .int .i64 k ∧ t = .int .i64 (sumI l k) ∧ u = .int .i64 (v * sumI l k / q) ∧ Below w3.heap.size w3 wr) (fun _ _ i _ => n1 - (intOf i).toNat)
      case atStart => exact ⟨0, Nat.zero_le _, rfl, by rw [sumI_zero], by rw [sumI_zero]; simp, Below.refl _ _⟩
      case round =>
        obtain ⟨k, hk, rfl, rfl, rfl, hb⟩ := hrel
        have Y := Lib.hid (blk_keep hb X.out)
        by_cases hlt : k < n1
        · obtain ⟨g, off, rfl, x, hx, hc⟩ := (r1.below hb).intAt hlt
          obtain ⟨g', off', rfl, ⟨px, pv⟩, hpx, hc0, hc1⟩ := (rp.below hb).poAt hlt
          rw [split_at hlt hx] at hpx
          injection hpx with hpx
          injection hpx with e1 e2
          subst e1 e2
          obtain ⟨f1, f2, f3, f4, f5, f6, f7, f8, f9, f10, f11, f12, f13⟩ := split_facts HP.out q0 HU.out HS.out hx
          have HPL := Lib.hid (PL.out k _ (split_at hlt hx))
          have SS := Lib.hid (sumI_succ hx)
          clear hx
          simp only at hc0 hc1 HPL
          have i1 : (0 : Int) ≤ k := by omega
          have i2 : (k : Int) < n1 := by omega
          have a0 := cell_wext hc; have a1 := cell_wext hc0; have a2 := cell_wext hc1
          have t1 : v * sumI l k / q + (v * (sumI l k + x) / q - v * sumI l k / q) = v * (sumI l k + x) / q := by omega
          have hqz : ¬ q = 0 := by omega
          go_wp2_with fail
          refine wp_region_ext (by kernel_rfl) (by kernel_rfl) ?_
          repeat (go_big_quiet_step ((go_at_call 36; exact ext_call (HPL.out ▸ specIsPool x (v * (sumI l k + x) / q - v * sumI l k / q) _))))
          refine wpQuiet_nil ?_
          intro _ hw'; obtain ⟨nq, hw''⟩ := hw'; subst hw''
          have Y := Lib.hid (blk_keep (below_wext _ nq) Y.out)
          have bw := below_app hb (below_wext _ nq) hb.size
          have c0 := cell_keep (below_wext _ nq) hc0
          have c1 := cell_keep (below_wext _ nq) hc1
          clear a0 a1 a2 hc hc0 hc1
          generalize wext wr nq = w4 at *
          have x0 := blk_at Y.out (j := 0) rfl; have x1 := blk_at Y.out (j := 1) rfl
          go_wp2_with fail
          go_roundw
          case rel => exact ⟨k + 1, by omega, by go_num, by rw [SS.out], by rw [SS.out], bw⟩
          case measure => simp [intOf]; omega
        · obtain rfl : n1 = k := by omega
          have ev : v * q / q = v := Int.mul_ediv_cancel _ (by omega)
          rw [SA.out, ev]
          clear ev
          have x0 := blk_at Y.out (j := 0) rfl; have x1 := blk_at Y.out (j := 1) rfl
          go_wp2_with fail
          go_ret
          exact ⟨rfl, below_app b3 hb b3.size⟩
set_option maxRecDepth 100000 in
theorem lifted (os : Os) (started : os.Started) (H : Type) (enc : TypeId × Value → H) :
    ReturnsInHanded {} Try.checked os 7 .any (Rows.fnSplitsSpec.pre6 enc Try.prog Try.f7 Rows.fnSplitsRow.domain false) (Rows.fnSplitsSpec.post enc Try.prog Try.f7 false true false false) := by
  refine returnsInHanded_of_change (C := Try.checked) Try.own started (by kernel_rfl) Try.func7
    (ChangeSpec.witness6 (enc := enc) (C := Try.checked) false ⟨#[], #[.slice none 0 0], []⟩ 8 (by kernel_rfl) (by kernel_rfl) (by kernel_rfl) (by kernel_rfl)) ?_
  intro W base args ds gs before hval0 hW hcnd _
  have hval : ∀ (j : Nat) t v, Try.f7.params[j]? = some t → args[j]? = some v → Value.okWide Try.prog W .any base t v := hval0
  have hW' := hW
  obtain ⟨p, q, hA0, hV, rfl, hfz, hnd⟩ := hW
  have hA : DataW.TrodAll enc Try.prog W 0 (fun _ => true) true Try.f7.params.toList args.toList ds p := hA0
  rw [Try.params7] at hA hval
  obtain ⟨v0, vs0, d0, ds0, p0, q0, hargs, rfl, rfl, h0, r0⟩ := trodAll_cons hA
  obtain ⟨rfl, rfl, rfl⟩ := trodAll_nil r0
  obtain rfl : args = #[v0] := by cases args; simp_all
  obtain ⟨rfl, rfl⟩ := trodVars_none hV
  obtain ⟨Acode, ncode, ccode, code, rfl, hrcode, hncode, hokcode⟩ := open_bytes (hval 0 48 v0 rfl rfl) h0
  refine (walk W Acode ncode ccode code hrcode hncode hokcode).mono fun e W' ⟨he, hb⟩ => ?_
  subst he
  exact ⟨_, rfl, law_post Try.laidOut (by kernel_rfl) (by kernel_rfl) Try.underlying4 hW' rfl ⟨rfl, rfl, rfl⟩ hb⟩

theorem proved : Rows.FnSplitsSaid :=
  OpenClaim.holds_of_wide 7 Try.f7 rfl rfl rfl rfl rfl rfl rfl ⟨rfl, rfl, rfl, rfl, rfl⟩ rfl rfl rfl rfl rfl (by kernel_rfl) Try.func7 (by kernel_rfl)
    (of_decide_eq_true (by kernel_rfl)) (by unfold Func.isWrapper; first | (rw [if_pos (by decide +kernel)]; kernel_rfl) | (rw [if_neg (by decide +kernel)]; exact ⟨rfl, rfl⟩))
    (fun os started H enc _ => lifted os started H enc)
#print axioms proved
end Go.Proofs.Ytijnkofnpoapnaa.fnSplits
