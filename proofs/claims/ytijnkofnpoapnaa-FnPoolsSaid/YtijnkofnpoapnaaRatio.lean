/- Ratios of numbers that are not negative: the plain words, and the walks of the divisor, IsRatio and MakeRatio. -/
import Derived.Test.YtijnkofnpoapnaaIn
namespace Go.Proofs.Ytijnkofnpoapnaa
open Go.ChangeShapes Go.WideShapes Go.ChangeAt Go.RowKit

theorem gcd_step (x y : Nat) : Nat.gcd y (x % y) = Nat.gcd x y := by
  rw [Nat.gcd_comm y, ← Nat.gcd_rec, Nat.gcd_comm]
theorem implGcd (x y : Nat) (w : World) (hx : x ≤ 2000000000000000000) (hy : y ≤ 2000000000000000000) :
    Calls Try.prog 76 #[.int .i64 x, .int .i64 y] w fun e w' => e = .returned (.int .i64 (Nat.gcd x y)) ∧ Below w.heap.size w w' := by
  go_enter Try.func76, Try.ntmps76
  go_wp2
  go_loopw [0, 1] (fun a b wr => ∃ x' y' : Nat, a = .int .i64 x' ∧ b = .int .i64 y' ∧ x' ≤ 2000000000000000000 ∧ y' ≤ 2000000000000000000 ∧ Hid (Nat.gcd x' y' = Nat.gcd x y) ∧ Below w.heap.size w wr) (fun _ b _ => (intOf b).toNat)
  case atStart => exact ⟨x, y, rfl, rfl, hx, hy, rfl, Below.refl _ _⟩
  case round =>
    obtain ⟨a, b, rfl, rfl, ha, hb, hg, hbl⟩ := hrel
    by_cases h0 : b = 0
    · subst h0
      have E := Lib.hid (show a = Nat.gcd x y by rw [← hg.out, Nat.gcd_zero_right])
      have a0 : (0 : Int) ≤ a := by omega
      have a1 : (if (a : Int) < -(a : Int) then -(a : Int) else (a : Int)) = a := by rw [if_neg (by omega)]
      clear hg
      go_wp2
      go_ret
      exact ⟨ret_int (by rw [← E.out]), hbl⟩
    · have b0 : 0 < b := by omega
      have hz : ((b : Int) != 0) = true := by simp; omega
      have m1 := Nat.mod_lt a b0
      have g1 := Lib.hid (gcd_step a b)
      have e1 := Lib.hid (Int.natCast_emod a b)
      clear h0
      go_wp2
      go_quiet (fail)
      go_wp2
      go_roundw
      case rel => exact ⟨b, a % b, rfl, by rw [e1.out], hb, by omega, by rw [Hid, g1.out]; exact hg.out, below_drewN hbl _⟩
      case measure => simp [intOf]; omega
theorem specGcd (x y : Nat) (w : World) (hx : x ≤ 2000000000000000000) (hy : y ≤ 2000000000000000000) :
    Calls Try.prog 71 #[.int .i64 x, .int .i64 y] w fun e w' => e = .returned (.int .i64 (Nat.gcd x y)) ∧ Below w.heap.size w w' := by
  go_enter Try.func71, Try.ntmps71
  go_wp2
  go_loopw [0, 1] (fun a b wr => ∃ x' y' : Nat, a = .int .i64 x' ∧ b = .int .i64 y' ∧ x' ≤ 2000000000000000000 ∧ y' ≤ 2000000000000000000 ∧ Hid (Nat.gcd x' y' = Nat.gcd x y) ∧ Below w.heap.size w wr) (fun _ b _ => (intOf b).toNat)
  case atStart => exact ⟨x, y, rfl, rfl, hx, hy, rfl, Below.refl _ _⟩
  case round =>
    obtain ⟨a, b, rfl, rfl, ha, hb, hg, hbl⟩ := hrel
    by_cases h0 : b = 0
    · subst h0
      have E := Lib.hid (show a = Nat.gcd x y by rw [← hg.out, Nat.gcd_zero_right])
      have a0 : (0 : Int) ≤ a := by omega
      have a1 : (if (a : Int) < -(a : Int) then -(a : Int) else (a : Int)) = a := by rw [if_neg (by omega)]
      clear hg
      go_wp2
      go_ret
      exact ⟨ret_int (by rw [← E.out]), hbl⟩
    · have b0 : 0 < b := by omega
      have hz : ((b : Int) != 0) = true := by simp; omega
      have m1 := Nat.mod_lt a b0
      have g1 := Lib.hid (gcd_step a b)
      have e1 := Lib.hid (Int.natCast_emod a b)
      clear h0
      go_wp2
      go_quiet (fail)
      go_wp2
      go_roundw
      case rel => exact ⟨b, a % b, rfl, by rw [e1.out], hb, by omega, by rw [Hid, g1.out]; exact hg.out, below_drewN hbl _⟩
      case measure => simp [intOf]; omega
theorem impl_in_yes {n a b : Int} (w : World) (h : inB n a b = true) : Calls Try.prog 58 #[.int .i64 n, .int .i64 a, .int .i64 b] w fun e w' => e = .returned (.bool true) ∧ w = w' := h ▸ impl_in n a b w
theorem spec_in_yes {n a b : Int} (w : World) (h : inB n a b = true) : Calls Try.prog 57 #[.int .i64 n, .int .i64 a, .int .i64 b] w fun e w' => e = .returned (.bool true) ∧ w = w' := h ▸ spec_in n a b w
theorem implAbs (x : Nat) (w : World) (hx : x ≤ 2000000000000000000) : Calls Try.prog 77 #[.int .i64 x] w fun e w' => e = .returned (.int .i64 x) ∧ w = w' := by
  have h : ¬ (x : Int) < 0 := by omega
  go_enter Try.func77, Try.ntmps77
  go_wp2
  go_ret
  exact ⟨rfl, rfl⟩
set_option maxHeartbeats 1000000 in
theorem implIsRatio (n d : Nat) (w : World) (h1 : 1 ≤ d) (h2 : d ≤ 1000000000) (h3 : n ≤ 1000000000) (hg : Nat.gcd n d = 1) : Calls Try.prog 78 #[.agg #[.int .i64 n, .int .i64 d]] w fun e w' => e = .returned (.bool true) ∧ Below w.heap.size w w' := by
  have HG := Lib.hid hg; clear hg
  have c0 := cell_wext (blk_at (blk_new1 w (Obj.cells #[.int .i64 n, .int .i64 d] 25)) (j := 0) rfl)
  have c1 := cell_wext (blk_at (blk_new1 w (Obj.cells #[.int .i64 n, .int .i64 d] 25)) (j := 1) rfl)
  go_enter Try.func78, Try.ntmps78
  go_wp2
  refine wp_region_ext (by kernel_rfl) (by kernel_rfl) ?_
  repeat (go_big_quiet_step (first | (go_at_call 58; exact ext_quiet (impl_in_yes _ (inB_true.2 (by omega)))) | (go_at_call 77; exact ext_quiet (implAbs _ _ (by omega))) | (go_at_call 76; exact ext_call (HG.out ▸ implGcd n d _ (by omega) (by omega)))))
  refine wpQuiet_nil ?_
  intro _ hw'; obtain ⟨nq, hw''⟩ := hw'; subst hw''
  go_wp2
  go_ret
  exact ⟨rfl, below_then (below_box w _) (below_wext _ _)⟩
set_option maxHeartbeats 1000000 in
theorem specIsRatio (n d : Nat) (w : World) (h1 : 1 ≤ d) (h2 : d ≤ 1000000000) (h3 : n ≤ 1000000000) (hg : Nat.gcd n d = 1) : Calls Try.prog 40 #[.agg #[.int .i64 n, .int .i64 d]] w fun e w' => e = .returned (.bool true) ∧ Below w.heap.size w w' := by
  have HG := Lib.hid hg; clear hg
  go_enter Try.func40, Try.ntmps40
  go_wp2_with (first | (go_at_call 57; refine (spec_in_yes _ (inB_true.2 (by omega))).mono ?_; rintro e w' ⟨rfl, rfl⟩) | (go_at_call 71; refine (specGcd n d _ (by omega) (by omega)).mono ?_; rw [HG.out]; rintro e w1 ⟨rfl, hb1⟩))
  go_ret
  exact ⟨rfl, below_then (below_box w _) hb1⟩
theorem ratio_parts {n d : Nat} (hd : 1 ≤ d) : 1 ≤ Nat.gcd n d ∧ Nat.gcd n d ≤ d ∧ 1 ≤ d / Nat.gcd n d ∧ Nat.gcd (n / Nat.gcd n d) (d / Nat.gcd n d) = 1 := by
  have g1 := Nat.gcd_pos_of_pos_right n (show 0 < d by omega)
  have g2 := Nat.gcd_le_right n (show 0 < d by omega)
  exact ⟨g1, g2, Nat.div_pos g2 g1, Nat.coprime_div_gcd_div_gcd g1⟩
set_option maxHeartbeats 2000000 in
theorem implMakeRatio (n d : Nat) (w : World) (hd : 1 ≤ d) (h2 : d ≤ 1000000000) (h3 : n ≤ 1000000000) :
    Calls Try.prog 56 #[.int .i64 n, .int .i64 d] w fun e w' => e = .returned (.agg #[.int .i64 ((n / Nat.gcd n d : Nat) : Int), .int .i64 ((d / Nat.gcd n d : Nat) : Int)]) ∧ Below w.heap.size w w' := by
  obtain ⟨p1, p2, p3, p4⟩ := ratio_parts (n := n) hd
  have p5 := Nat.div_le_self n (Nat.gcd n d)
  have p6 := Nat.div_le_self d (Nat.gcd n d)
  have P4 := Lib.hid p4
  have e1 := Lib.hid (Int.natCast_ediv n (Nat.gcd n d))
  have e2 := Lib.hid (Int.natCast_ediv d (Nat.gcd n d))
  have hz : ((d : Int) == 0) = false := by simp; omega
  have hz2 : ¬ ((d : Int) < 0) := by omega
  clear p4
  go_enter Try.func56, Try.ntmps56
  go_wp2_with (first | (go_at_call 58; refine (impl_in_yes _ (inB_true.2 (by omega))).mono ?_; rintro e w' ⟨rfl, rfl⟩) | (go_at_call 76; refine (implGcd n d _ (by omega) (by omega)).mono ?_; rintro e w1 ⟨rfl, hb1⟩) | (go_at_call 77; refine (implAbs n _ (by omega)).mono ?_; rintro e w' ⟨rfl, rfl⟩))
  have g1 := Lib.hid (blk_keep hb1 (blk_new1 _ _))
  have r0 := blk_at g1.out (j := 0) rfl; have r1 := blk_at g1.out (j := 1) rfl; have rf := blk_free g1.out
  have b1 := below_then (below_box w _) hb1
  clear hb1
  have q1 := Int.ediv_nonneg (show (0 : Int) ≤ n by omega) (show (0 : Int) ≤ (Nat.gcd n d : Nat) by omega)
  have q2 := Int.ediv_le_self (Nat.gcd n d : Nat) (show (0 : Int) ≤ n by omega)
  go_region
  go_wp2_with fail
  rw [← e1.out, ← e2.out]
  refine (implIsRatio _ _ _ p3 (by omega) (by omega) P4.out).mono ?_; rintro e w2 ⟨rfl, hb2⟩
  have G2 := Lib.hid (blk_keep hb2 (blk_keep (show Below w1.heap.size w1 (World.drew _) from (below_box w1 _).drew) g1.out))
  have O2 := Lib.hid (blk_keep hb2 (show (World.drew _).heap[w1.heap.size]? = _ from blk_new1 w1 _))
  have s0 := blk_at G2.out (j := 0) rfl; have s1 := blk_at G2.out (j := 1) rfl; have sf := blk_free G2.out
  have o0 := blk_at O2.out (j := 0) rfl; have o1 := blk_at O2.out (j := 1) rfl
  have b2 := below_app b1 (below_app (below_box w1 _).drew hb2 (by simp)) b1.size
  clear hb2 r0 r1 rf
  go_wp2_with fail
  refine bodyPost_ret (v := .agg #[.int .i64 ((n / Nat.gcd n d : Nat) : Int), .int .i64 ((d / Nat.gcd n d : Nat) : Int)]) (by simp [results, Try.results56, go_sem, s0, s1]) rfl ⟨rfl, ?_⟩
  exact (b2.setCell (Nat.le_refl _) _).setCell (Nat.le_refl _) _
set_option maxHeartbeats 2000000 in
theorem specMakeRatio (n d : Nat) (w : World) (hd : 1 ≤ d) (h2 : d ≤ 1000000000) (h3 : n ≤ 1000000000) :
    Calls Try.prog 41 #[.int .i64 n, .int .i64 d] w fun e w' => e = .returned (.agg #[.int .i64 ((n / Nat.gcd n d : Nat) : Int), .int .i64 ((d / Nat.gcd n d : Nat) : Int)]) ∧ Below w.heap.size w w' := by
  obtain ⟨p1, p2, p3, p4⟩ := ratio_parts (n := n) hd
  have p5 := Nat.div_le_self n (Nat.gcd n d)
  have p6 := Nat.div_le_self d (Nat.gcd n d)
  have P4 := Lib.hid p4
  have e1 := Lib.hid (Int.natCast_ediv n (Nat.gcd n d))
  have e2 := Lib.hid (Int.natCast_ediv d (Nat.gcd n d))
  have hz : ((d : Int) == 0) = false := by simp; omega
  have hz2 : ¬ ((d : Int) < 0) := by omega
  clear p4
  go_enter Try.func41, Try.ntmps41
  go_wp2_with (first | (go_at_call 57; refine (spec_in_yes _ (inB_true.2 (by omega))).mono ?_; rintro e w' ⟨rfl, rfl⟩) | (go_at_call 71; refine (specGcd n d _ (by omega) (by omega)).mono ?_; rintro e w1 ⟨rfl, hb1⟩) | (go_at_call 77; refine (implAbs n _ (by omega)).mono ?_; rintro e w' ⟨rfl, rfl⟩))
  have g1 := Lib.hid (blk_keep hb1 (blk_new1 _ _))
  have r0 := blk_at g1.out (j := 0) rfl; have r1 := blk_at g1.out (j := 1) rfl; have rf := blk_free g1.out
  have b1 := below_then (below_box w _) hb1
  clear hb1
  have q1 := Int.ediv_nonneg (show (0 : Int) ≤ n by omega) (show (0 : Int) ≤ (Nat.gcd n d : Nat) by omega)
  have q2 := Int.ediv_le_self (Nat.gcd n d : Nat) (show (0 : Int) ≤ n by omega)
  go_region
  go_wp2_with fail
  rw [← e1.out, ← e2.out]
  refine (specIsRatio _ _ _ p3 (by omega) (by omega) P4.out).mono ?_; rintro e w2 ⟨rfl, hb2⟩
  have G2 := Lib.hid (blk_keep hb2 (blk_keep (show Below w1.heap.size w1 (World.drew _) from (below_box w1 _).drew) g1.out))
  have O2 := Lib.hid (blk_keep hb2 (show (World.drew _).heap[w1.heap.size]? = _ from blk_new1 w1 _))
  have s0 := blk_at G2.out (j := 0) rfl; have s1 := blk_at G2.out (j := 1) rfl; have sf := blk_free G2.out
  have o0 := blk_at O2.out (j := 0) rfl; have o1 := blk_at O2.out (j := 1) rfl
  have b2 := below_app b1 (below_app (below_box w1 _).drew hb2 (by simp)) b1.size
  clear hb2 r0 r1 rf
  go_wp2_with fail
  refine bodyPost_ret (v := .agg #[.int .i64 ((n / Nat.gcd n d : Nat) : Int), .int .i64 ((d / Nat.gcd n d : Nat) : Int)]) (by simp [results, Try.results41, go_sem, s0, s1]) rfl ⟨rfl, ?_⟩
  exact (b2.setCell (Nat.le_refl _) _).setCell (Nat.le_refl _) _
end Go.Proofs.Ytijnkofnpoapnaa
