/- FnVariances returns true for all arguments, and leaves them as they were. No condition. -/
import Derived.Test.YtijnkofnpoapnaaDrawNum
import Derived.Test.YtijnkofnpoapnaaDrawOpen
import Derived.Test.YtijnkofnpoapnaaPool
import Derived.Test.YtijnkofnpoapnaaMore
namespace Go.Proofs.Ytijnkofnpoapnaa.fnVariances
open Go.ChangeShapes Go.WideShapes Go.ChangeAt Go.RowKit

theorem byteInfo : (Try.prog.info? 5).map (fun i => (i.zero, i.size, i.bytes)) = some (some (.int .u8 0), 1, 1) := by kernel_rfl
theorem var_law {q p s m : Int} (h1 : areActuals q p = true) (h2 : areActuals m s = true) : priceVar q p s + usageVar q m s = q * p - m * s ∧ areActuals q s = true ∧ (-1000000000 ≤ q * p ∧ q * p ≤ 1000000000) ∧ (-1000000000 ≤ m * s ∧ m * s ≤ 1000000000) ∧ -1000000000 ≤ priceVar q p s ∧ priceVar q p s ≤ 1000000000 := by
  have a1 := areActuals_true h1; have a2 := areActuals_true h2
  have h3 : areActuals q s = true := by
    rw [areActuals, Bool.and_eq_true, inB_true, inB_true]; omega
  have e1 : priceVar q p s = q * p - q * s := by simp [priceVar, h1, h3, Int.mul_sub]
  have e2 : usageVar q m s = q * s - m * s := by simp [usageVar, h2, h3, Int.sub_mul]
  have m1 := mul_bd (a := q) (b := p) (M := 100000) (N := 10000) (by omega) (by omega) (by omega) (by omega)
  have m2 := mul_bd (a := m) (b := s) (M := 100000) (N := 10000) (by omega) (by omega) (by omega) (by omega)
  have m3 := mul_bd (a := q) (b := p - s) (M := 100000) (N := 10000) (by omega) (by omega) (by omega) (by omega)
  rw [Int.mul_sub] at m3
  rw [e1, e2]
  exact ⟨by omega, h3, by omega, by omega, by omega, by omega⟩

set_option maxRecDepth 100000 in
set_option maxHeartbeats 2000000 in
theorem walk (w : World) (A : Option Addr) (n c : Nat) (bs : List Int) (hr : RS w 1 A n (byteCells bs)) (hn : n ≤ 9223372036854775807) (hok : ∀ y ∈ bs, 0 ≤ y ∧ y < 256) :
    Calls Try.prog 6 #[.slice A n c] w fun e w' => e = .returned (.bool true) ∧ Below w.heap.size w w' := by
  obtain ⟨i0, hi, hz0, hz1, hz2⟩ := info_parts byteInfo
  by_cases hbig : 1048576 < n
  · go_enter Try.func6, Try.ntmps6
    go_wp2_with (go_at_call 28; refine (big_any _ _ _ _ hn).mono ?_; rw [decide_eq_true hbig]; rintro e w' ⟨rfl, rfl⟩)
    go_ret
    exact ⟨rfl, Below.refl _ _⟩
  · go_enter Try.func6, Try.ntmps6
    go_wp2_with fail
    refine (big_any _ _ _ _ hn).mono ?_; rw [decide_eq_false hbig]; rintro e w' ⟨rfl, rfl⟩
    go_wp2_with fail
    refine (DrawPriceVariance_any _ _ _ _ _ hr hok (by omega)).mono ?_; rintro e w1 ⟨q, p, s, rfl, hq, hp, hs, b1⟩
    have hr1 := hr.below b1
    go_wp2_with (at_builtin; refine wpList_app _ rfl _ _ _ rfl w1.heap.size 5 i0 _ 1 1 Try.underlying48 hi hz0 hz1 hz2 rfl (by omega) _ 1 [.int .u8 2] rfl (own_new w1 #[.int .u8 2] (Nat.le_refl _) (by unfold maxLen; omega) rfl) A n c (byteCells bs) rfl (hr1.alloc _) (by intro u hu; obtain ⟨x, _, rfl⟩ := List.mem_map.1 hu; rfl) (by unfold maxLen; omega) (by omega) (by simp) ?_; intro A2 c2 w2 o2 _ _ hb2)
    have b2 := below_then b1 ((below_box w1 _).trans hb2)
    have hbs : ∀ y ∈ (2 :: bs), (0 : Int) ≤ y ∧ y < 256 := fun y hy => by
      rcases List.mem_cons.1 hy with rfl | h
      · omega
      · exact hok y h
    have HB := Lib.hid hbs
    clear hbs hr1 b1 hb2
    refine (DrawUsageVariance_any _ _ _ (2 :: bs) _ (RS.of_own o2) HB.out (by omega)).mono ?_; rintro e w3 ⟨m, u1, u2, rfl, hm, -, -, hb3⟩
    have b3 := below_then b2 hb3
    clear b2 hb3 o2
    go_wp2_with fail
    refine (implPriceVar _ _ _ _).mono ?_; rintro e w4 ⟨rfl, hb4⟩
    have b4 := below_then b3 hb4
    clear b3 hb4
    go_wp2_with fail
    refine (implUsageVar _ _ _ _).mono ?_; rintro e w5 ⟨rfl, hb5⟩
    have b5 := below_then b4 hb5
    clear b4 hb5
    cases h1 : areActuals q p
    · go_wp2_with fail
      refine (specAreActuals _ _ _).mono ?_; rw [h1]; rintro e w6 ⟨rfl, hb6⟩
      go_wp2_with fail
      go_ret
      exact ⟨rfl, below_then b5 hb6⟩
    · cases h2 : areActuals m s
      · go_wp2_with fail
        refine (specAreActuals _ _ _).mono ?_; rw [h1]; rintro e w6 ⟨rfl, hb6⟩
        have b6 := below_then b5 hb6
        go_wp2_with fail
        refine (specAreActuals _ _ _).mono ?_; rw [h2]; rintro e w7 ⟨rfl, hb7⟩
        go_wp2_with fail
        go_ret
        exact ⟨rfl, below_then b6 hb7⟩
      · obtain ⟨k1, k2, k3, k4, k5, k6⟩ := var_law h1 h2
        have H1 := Lib.hid h1; have H2 := Lib.hid h2; have K2 := Lib.hid k2
        clear h1 h2 k2
        generalize priceVar q p s = a at *
        generalize usageVar q m s = b at *
        obtain rfl : b = q * p - m * s - a := by omega
        clear k1
        have k1 : a + (q * p - m * s - a) = q * p - m * s := by omega
        go_wp2_with fail
        refine (specAreActuals _ _ _).mono ?_; rw [H1.out]; rintro e w6 ⟨rfl, hb6⟩
        have b6 := below_then b5 hb6
        go_wp2_with fail
        refine (specAreActuals _ _ _).mono ?_; rw [H2.out]; rintro e w7 ⟨rfl, hb7⟩
        have b7 := below_then b6 hb7
        clear b5 hb6 b6 hb7
        go_wp2_with fail
        refine (implAreActuals _ _ _).mono ?_; rw [K2.out]; rintro e w8 ⟨rfl, hb8⟩
        go_wp2_with fail
        go_ret
        exact ⟨rfl, below_then b7 hb8⟩
set_option maxRecDepth 100000 in
theorem lifted (os : Os) (started : os.Started) (H : Type) (enc : TypeId × Value → H) :
    ReturnsInHanded {} Try.checked os 6 .any (Rows.fnVariancesSpec.pre6 enc Try.prog Try.f6 Rows.fnVariancesRow.domain false) (Rows.fnVariancesSpec.post enc Try.prog Try.f6 false true false false) := by
  refine returnsInHanded_of_change (C := Try.checked) Try.own started (by kernel_rfl) Try.func6
    (ChangeSpec.witness6 (enc := enc) (C := Try.checked) false ⟨#[], #[.slice none 0 0], []⟩ 8 (by kernel_rfl) (by kernel_rfl) (by kernel_rfl) (by kernel_rfl)) ?_
  intro W base args ds gs before hval0 hW hcnd _
  have hval : ∀ (j : Nat) t v, Try.f6.params[j]? = some t → args[j]? = some v → Value.okWide Try.prog W .any base t v := hval0
  have hW' := hW
  obtain ⟨p, q, hA0, hV, rfl, hfz, hnd⟩ := hW
  have hA : DataW.TrodAll enc Try.prog W 0 (fun _ => true) true Try.f6.params.toList args.toList ds p := hA0
  rw [Try.params6] at hA hval
  obtain ⟨v0, vs0, d0, ds0, p0, q0, hargs, rfl, rfl, h0, r0⟩ := trodAll_cons hA
  obtain ⟨rfl, rfl, rfl⟩ := trodAll_nil r0
  obtain rfl : args = #[v0] := by cases args; simp_all
  obtain ⟨rfl, rfl⟩ := trodVars_none hV
  obtain ⟨Acode, ncode, ccode, code, rfl, hrcode, hncode, hokcode⟩ := open_bytes (hval 0 48 v0 rfl rfl) h0
  refine (walk W Acode ncode ccode code hrcode hncode hokcode).mono fun e W' ⟨he, hb⟩ => ?_
  subst he
  exact ⟨_, rfl, law_post Try.laidOut (by kernel_rfl) (by kernel_rfl) Try.underlying4 hW' rfl ⟨rfl, rfl, rfl⟩ hb⟩

theorem proved : Rows.FnVariancesSaid :=
  OpenClaim.holds_of_wide 6 Try.f6 rfl rfl rfl rfl rfl rfl rfl ⟨rfl, rfl, rfl, rfl, rfl⟩ rfl rfl rfl rfl rfl (by kernel_rfl) Try.func6 (by kernel_rfl)
    (of_decide_eq_true (by kernel_rfl)) (by unfold Func.isWrapper; first | (rw [if_pos (by decide +kernel)]; kernel_rfl) | (rw [if_neg (by decide +kernel)]; exact ⟨rfl, rfl⟩))
    (fun os started H enc _ => lifted os started H enc)
#print axioms proved
end Go.Proofs.Ytijnkofnpoapnaa.fnVariances
