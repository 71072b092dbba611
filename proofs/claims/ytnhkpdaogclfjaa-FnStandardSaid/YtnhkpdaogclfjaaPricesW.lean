/- Prices over a catalog: the plain word, and the walks of ArePrices. -/
import Derived.Test.YtnhkpdaogclfjaaCatalog
import Derived.Test.YtnhkpdaogclfjaaSNeed
namespace Go.Proofs.Ytnhkpdaogclfjaa
open Go.ChangeShapes Go.WideShapes Go.ChangeAt Go.RowKit

def prOk (cat : List It) (l : List Nd) (k : Nat) (x : Nd) : Bool := !decide (findAt cat x.code < 0) && (inB x.qty 0 10000 && rises Nd.code l k x.code)
def arePrices (cat : List It) (l : List Nd) : Bool := isCat cat && allAt l (prOk cat l)
theorem arePrices_bad {cat : List It} {l : List Nd} {k : Nat} {x : Nd} (hx : l[k]? = some x) (h : prOk cat l k x = false) : arePrices cat l = false := by
  simp [arePrices, allAt_bad hx h]
theorem arePrices_good {cat : List It} {l : List Nd} (h : ∀ (j : Nat) (x : Nd), l[j]? = some x → prOk cat l j x = true) : arePrices cat l = isCat cat := by
  simp [arePrices, allAt_good h]
set_option maxRecDepth 100000 in
set_option maxHeartbeats 4000000 in
theorem implArePrices (Ac : Option Addr) (nc cc : Nat) (cat : List It) (A : Option Addr) (n c : Nat) (l : List Nd) (w : World) (hrc : RS w 8 Ac nc (cat.flatMap itCell)) (hnc : nc ≤ 9223372036854775807) (hr : RS w 2 A n (l.flatMap ndCell)) (hn : n ≤ 9223372036854775807) (hok : ∀ x ∈ cat, itOk x) :
    Calls Try.prog 11 #[.slice Ac nc cc, .slice A n c] w fun e w' => e = .returned (.bool (arePrices cat l)) ∧ Below w.heap.size w w' := by
  have hl := Lib.hid (hr.flatLen ndCell_len (by omega))
  have OK := Lib.hid hok; clear hok
  cases hcat : isCat cat
  · have E0 := Lib.hid (show arePrices cat l = false by simp [arePrices, hcat])
    go_enter Try.func11, Try.ntmps11
    go_wp2_with fail
    refine (implIsCatalog _ _ _ cat _ hrc hnc OK.out).mono ?_; rw [hcat]; rintro e w1 ⟨rfl, hb1⟩
    go_wp2_with fail
    go_ret
    exact ⟨ret_bool E0.out.symm, hb1⟩
  have HC := Lib.hid hcat
  go_enter Try.func11, Try.ntmps11
  go_wp2_with fail
  refine (implIsCatalog _ _ _ cat _ hrc hnc OK.out).mono ?_; rw [hcat]; rintro e w1 ⟨rfl, hb1⟩
  clear hcat
  go_wp2_with fail
  go_loopw [12] (fun i wr => ∃ k : Nat, k ≤ n ∧ i = .int .i64 k ∧ Below w.heap.size w wr ∧ Hid (∀ (j : Nat) (x : Nd), j < k → l[j]? = some x → prOk cat l j x = true)) (fun i _ => n - (intOf i).toNat)
  case atStart => exact ⟨0, Nat.zero_le _, rfl, hb1, fun j x h => absurd h (Nat.not_lt_zero _)⟩
  case round =>
    obtain ⟨k, hk, rfl, hb, hgood⟩ := hrel
    have hz := hb.size
    by_cases hlt : k < n
    · obtain ⟨g, off, rfl, ⟨code, qty⟩, hx, hc0, hc1⟩ := (hr.below hb).ndAt hlt
      simp only at hc0 hc1
      have HX := Lib.hid hx; clear hx
      have i1 : (0 : Int) ≤ k := by omega
      have i2 : (k : Int) < n := by omega
      have step : prOk cat l k ⟨code, qty⟩ = true → ∀ (j : Nat) (y : Nd), j < k + 1 → l[j]? = some y → prOk cat l j y = true := fun h j y hj hy => by
        rcases Nat.lt_succ_iff_lt_or_eq.1 hj with h' | rfl
        · exact hgood.out j y h' hy
        · rw [HX.out] at hy; injection hy with hy; rw [← hy]; exact h
      have ST := Lib.hid step; clear step
      have X0 := Lib.hid (blk_new1 wr (Obj.cells #[.string code, .int .i64 qty] 55))
      have c0 := cell_wext (blk_at X0.out (j := 0) rfl)
      have c1 := cell_wext (blk_at X0.out (j := 1) rfl)
      by_cases q1 : findAt cat code < 0
      · have BAD := Lib.hid (arePrices_bad HX.out (show prOk cat l k ⟨code, qty⟩ = false by simp [prOk, q1]))
        go_wp2
        refine wp_region_ext (by kernel_rfl) (by kernel_rfl) ?_
        repeat (go_big_quiet_step (first | (go_at_call 35; exact ext_call (implFind _ _ _ cat code _ (((hrc.below hb).alloc _).wext _) hnc)) | (go_at_call 36; exact ext_quiet (impl_in _ _ _ _))))
        refine wpQuiet_nil ?_
        intro _ hw'; obtain ⟨nq, hw''⟩ := hw'; subst hw''
        have b2 := below_app (hb.alloc hz (Obj.cells #[.string code, .int .i64 qty] 55)) (below_wext _ nq) (by simp only [World.size_alloc]; omega)
        go_wp2
        go_ret
        exact ⟨ret_bool BAD.out.symm, b2⟩
      have q1b : decide (findAt cat code < 0) = false := by simpa using q1
      cases q2 : inB qty 0 10000
      · have BAD := Lib.hid (arePrices_bad HX.out (show prOk cat l k ⟨code, qty⟩ = false by simp [prOk, q2]))
        go_wp2
        refine wp_region_ext (by kernel_rfl) (by kernel_rfl) ?_
        repeat (go_big_quiet_step (first | (go_at_call 35; exact ext_call (implFind _ _ _ cat code _ (((hrc.below hb).alloc _).wext _) hnc)) | (go_at_call 36; exact ext_quiet (impl_in _ _ _ _))))
        refine wpQuiet_nil ?_
        intro _ hw'; obtain ⟨nq, hw''⟩ := hw'; subst hw''
        have b2 := below_app (hb.alloc hz (Obj.cells #[.string code, .int .i64 qty] 55)) (below_wext _ nq) (by simp only [World.size_alloc]; omega)
        go_wp2
        go_ret
        exact ⟨ret_bool BAD.out.symm, b2⟩
      by_cases hk0 : 0 < k
      · obtain ⟨g', off', he', ⟨code', qty'⟩, hx', hp0, hp1⟩ := (hr.below hb).ndAt (show k - 1 < n by omega)
        injection he' with he'
        injection he' with e1 e2
        subst e1 e2
        simp only at hp0
        clear hp1
        have d0 := cell_wext (cell_alloc hp0 (Obj.cells #[.string code, .int .i64 qty] 55))
        have HP := Lib.hid hx'; clear hx'
        have RI := Lib.hid (rises_at (f := Nd.code) (s := code) hk0 HP.out)
        simp only at RI
        have i3 : (0 : Int) ≤ ((k : Int) - 1) := by omega
        have i4 : ((k : Int) - 1) < n := by omega
        have i5 : ((k : Int) - 1).toNat = k - 1 := by omega
        have i6 : ((k : Int)).toNat = k := by omega
        have i7 : (0 : Int) < k := by omega
        cases q3 : Op.bytesLess code'.toList code.toList
        · have BAD := Lib.hid (arePrices_bad HX.out (show prOk cat l k ⟨code, qty⟩ = false by simp [prOk, RI.out, txtLess, q3]))
          go_wp2
          refine wp_region_ext (by kernel_rfl) (by kernel_rfl) ?_
          repeat (go_big_quiet_step (first | (go_at_call 35; exact ext_call (implFind _ _ _ cat code _ (((hrc.below hb).alloc _).wext _) hnc)) | (go_at_call 36; exact ext_quiet (impl_in _ _ _ _))))
          refine wpQuiet_nil ?_
          intro _ hw'; obtain ⟨nq, hw''⟩ := hw'; subst hw''
          have b2 := below_app (hb.alloc hz (Obj.cells #[.string code, .int .i64 qty] 55)) (below_wext _ nq) (by simp only [World.size_alloc]; omega)
          go_wp2
          go_ret
          exact ⟨ret_bool BAD.out.symm, b2⟩
        · have GOOD := Lib.hid (show prOk cat l k ⟨code, qty⟩ = true by simp [prOk, q1, q2, RI.out, txtLess, q3]; try omega)
          go_wp2
          refine wp_region_ext (by kernel_rfl) (by kernel_rfl) ?_
          repeat (go_big_quiet_step (first | (go_at_call 35; exact ext_call (implFind _ _ _ cat code _ (((hrc.below hb).alloc _).wext _) hnc)) | (go_at_call 36; exact ext_quiet (impl_in _ _ _ _))))
          refine wpQuiet_nil ?_
          intro _ hw'; obtain ⟨nq, hw''⟩ := hw'; subst hw''
          have b2 := below_app (hb.alloc hz (Obj.cells #[.string code, .int .i64 qty] 55)) (below_wext _ nq) (by simp only [World.size_alloc]; omega)
          go_wp2
          go_roundw
          case rel => exact ⟨k + 1, by omega, by go_num, b2, ST.out GOOD.out⟩
          case measure => simp [intOf]; omega
      · have KZ := Lib.hid (show k = 0 by omega)
        have i7 : ¬ (0 : Int) < k := by omega
        have GOOD := Lib.hid (show prOk cat l k ⟨code, qty⟩ = true by rw [KZ.out]; simp [prOk, q1, q2, rises_zero]; try omega)
        go_wp2
        refine wp_region_ext (by kernel_rfl) (by kernel_rfl) ?_
        repeat (go_big_quiet_step (first | (go_at_call 35; exact ext_call (implFind _ _ _ cat code _ (((hrc.below hb).alloc _).wext _) hnc)) | (go_at_call 36; exact ext_quiet (impl_in _ _ _ _))))
        refine wpQuiet_nil ?_
        intro _ hw'; obtain ⟨nq, hw''⟩ := hw'; subst hw''
        have b2 := below_app (hb.alloc hz (Obj.cells #[.string code, .int .i64 qty] 55)) (below_wext _ nq) (by simp only [World.size_alloc]; omega)
        go_wp2
        go_roundw
        case rel => exact ⟨k + 1, by omega, by go_num, b2, ST.out GOOD.out⟩
        case measure => simp [intOf]; omega
    · obtain rfl : n = k := by omega
      have HH := Lib.hid (arePrices_good (cat := cat) (l := l) (fun j x hx => hgood.out j x (by rw [← hl.out]; exact (List.getElem?_eq_some_iff.1 hx).1) hx))
      clear hgood
      go_wp2_with fail
      go_ret
      exact ⟨ret_bool (by rw [HH.out, HC.out]), hb⟩
set_option maxRecDepth 100000 in
set_option maxHeartbeats 4000000 in
theorem specArePrices (Ac : Option Addr) (nc cc : Nat) (cat : List It) (A : Option Addr) (n c : Nat) (l : List Nd) (w : World) (hrc : RS w 8 Ac nc (cat.flatMap itCell)) (hnc : nc ≤ 9223372036854775807) (hr : RS w 2 A n (l.flatMap ndCell)) (hn : n ≤ 9223372036854775807) (hok : ∀ x ∈ cat, itOk x) :
    Calls Try.prog 8 #[.slice Ac nc cc, .slice A n c] w fun e w' => e = .returned (.bool (arePrices cat l)) ∧ Below w.heap.size w w' := by
  have hl := Lib.hid (hr.flatLen ndCell_len (by omega))
  have OK := Lib.hid hok; clear hok
  go_enter Try.func8, Try.ntmps8
  go_wp2_with fail
  go_loopw [5] (fun i wr => ∃ k : Nat, k ≤ n ∧ i = .int .i64 k ∧ Below w.heap.size w wr ∧ Hid (∀ (j : Nat) (x : Nd), j < k → l[j]? = some x → prOk cat l j x = true)) (fun i _ => n - (intOf i).toNat)
  case atStart => exact ⟨0, Nat.zero_le _, rfl, Below.refl _ _, fun j x h => absurd h (Nat.not_lt_zero _)⟩
  case round =>
    obtain ⟨k, hk, rfl, hb, hgood⟩ := hrel
    have hz := hb.size
    by_cases hlt : k < n
    · obtain ⟨g, off, rfl, ⟨code, qty⟩, hx, hc0, hc1⟩ := (hr.below hb).ndAt hlt
      simp only at hc0 hc1
      have HX := Lib.hid hx; clear hx
      have i1 : (0 : Int) ≤ k := by omega
      have i2 : (k : Int) < n := by omega
      have step : prOk cat l k ⟨code, qty⟩ = true → ∀ (j : Nat) (y : Nd), j < k + 1 → l[j]? = some y → prOk cat l j y = true := fun h j y hj hy => by
        rcases Nat.lt_succ_iff_lt_or_eq.1 hj with h' | rfl
        · exact hgood.out j y h' hy
        · rw [HX.out] at hy; injection hy with hy; rw [← hy]; exact h
      have ST := Lib.hid step; clear step
      have c0 := cell_wext hc0
      have c1 := cell_wext hc1
      by_cases q1 : findAt cat code < 0
      · have BAD := Lib.hid (arePrices_bad HX.out (show prOk cat l k ⟨code, qty⟩ = false by simp [prOk, q1]))
        go_wp2
        refine wp_region_ext (by kernel_rfl) (by kernel_rfl) ?_
        repeat (go_big_quiet_step (first | (go_at_call 29; exact ext_call (specFind _ _ _ cat code _ ((hrc.below hb).wext _) hnc)) | (go_at_call 30; exact ext_quiet (spec_in _ _ _ _))))
        refine wpQuiet_nil ?_
        intro _ hw'; obtain ⟨nq, hw''⟩ := hw'; subst hw''
        have b2 := below_app hb (below_wext _ nq) hz
        go_wp2
        go_ret
        exact ⟨ret_bool BAD.out.symm, b2⟩
      have q1b : decide (findAt cat code < 0) = false := by simpa using q1
      cases q2 : inB qty 0 10000
      · have BAD := Lib.hid (arePrices_bad HX.out (show prOk cat l k ⟨code, qty⟩ = false by simp [prOk, q2]))
        go_wp2
        refine wp_region_ext (by kernel_rfl) (by kernel_rfl) ?_
        repeat (go_big_quiet_step (first | (go_at_call 29; exact ext_call (specFind _ _ _ cat code _ ((hrc.below hb).wext _) hnc)) | (go_at_call 30; exact ext_quiet (spec_in _ _ _ _))))
        refine wpQuiet_nil ?_
        intro _ hw'; obtain ⟨nq, hw''⟩ := hw'; subst hw''
        have b2 := below_app hb (below_wext _ nq) hz
        go_wp2
        go_ret
        exact ⟨ret_bool BAD.out.symm, b2⟩
      by_cases hk0 : 0 < k
      · obtain ⟨g', off', he', ⟨code', qty'⟩, hx', hp0, hp1⟩ := (hr.below hb).ndAt (show k - 1 < n by omega)
        injection he' with he'
        injection he' with e1 e2
        subst e1 e2
        simp only at hp0
        clear hp1
        have d0 := cell_wext hp0
        have HP := Lib.hid hx'; clear hx'
        have RI := Lib.hid (rises_at (f := Nd.code) (s := code) hk0 HP.out)
        simp only at RI
        have i3 : (0 : Int) ≤ ((k : Int) - 1) := by omega
        have i4 : ((k : Int) - 1) < n := by omega
        have i5 : ((k : Int) - 1).toNat = k - 1 := by omega
        have i6 : ((k : Int)).toNat = k := by omega
        have i7 : (0 : Int) < k := by omega
        cases q3 : Op.bytesLess code'.toList code.toList
        · have BAD := Lib.hid (arePrices_bad HX.out (show prOk cat l k ⟨code, qty⟩ = false by simp [prOk, RI.out, txtLess, q3]))
          go_wp2
          refine wp_region_ext (by kernel_rfl) (by kernel_rfl) ?_
          repeat (go_big_quiet_step (first | (go_at_call 29; exact ext_call (specFind _ _ _ cat code _ ((hrc.below hb).wext _) hnc)) | (go_at_call 30; exact ext_quiet (spec_in _ _ _ _))))
          refine wpQuiet_nil ?_
          intro _ hw'; obtain ⟨nq, hw''⟩ := hw'; subst hw''
          have b2 := below_app hb (below_wext _ nq) hz
          go_wp2
          go_ret
          exact ⟨ret_bool BAD.out.symm, b2⟩
        · have GOOD := Lib.hid (show prOk cat l k ⟨code, qty⟩ = true by simp [prOk, q1, q2, RI.out, txtLess, q3]; try omega)
          go_wp2
          refine wp_region_ext (by kernel_rfl) (by kernel_rfl) ?_
          repeat (go_big_quiet_step (first | (go_at_call 29; exact ext_call (specFind _ _ _ cat code _ ((hrc.below hb).wext _) hnc)) | (go_at_call 30; exact ext_quiet (spec_in _ _ _ _))))
          refine wpQuiet_nil ?_
          intro _ hw'; obtain ⟨nq, hw''⟩ := hw'; subst hw''
          have b2 := below_app hb (below_wext _ nq) hz
          go_wp2
          go_roundw
          case rel => exact ⟨k + 1, by omega, by go_num, b2, ST.out GOOD.out⟩
          case measure => simp [intOf]; omega
      · have KZ := Lib.hid (show k = 0 by omega)
        have i7 : ¬ (0 : Int) < k := by omega
        have GOOD := Lib.hid (show prOk cat l k ⟨code, qty⟩ = true by rw [KZ.out]; simp [prOk, q1, q2, rises_zero]; try omega)
        go_wp2
        refine wp_region_ext (by kernel_rfl) (by kernel_rfl) ?_
        repeat (go_big_quiet_step (first | (go_at_call 29; exact ext_call (specFind _ _ _ cat code _ ((hrc.below hb).wext _) hnc)) | (go_at_call 30; exact ext_quiet (spec_in _ _ _ _))))
        refine wpQuiet_nil ?_
        intro _ hw'; obtain ⟨nq, hw''⟩ := hw'; subst hw''
        have b2 := below_app hb (below_wext _ nq) hz
        go_wp2
        go_roundw
        case rel => exact ⟨k + 1, by omega, by go_num, b2, ST.out GOOD.out⟩
        case measure => simp [intOf]; omega
    · obtain rfl : n = k := by omega
      have HH := Lib.hid (arePrices_good (cat := cat) (l := l) (fun j x hx => hgood.out j x (by rw [← hl.out]; exact (List.getElem?_eq_some_iff.1 hx).1) hx))
      clear hgood
      go_wp2_with fail
      refine (specIsCatalog _ _ _ cat _ (hrc.below hb) hnc OK.out).mono ?_; rintro e w2 ⟨rfl, hb2⟩
      have b2 := below_app hb hb2 hz
      go_wp2_with fail
      go_ret
      exact ⟨ret_bool (by rw [HH.out]), b2⟩
end Go.Proofs.Ytnhkpdaogclfjaa
