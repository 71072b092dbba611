/- FnPools returns true for all arguments, and leaves them as they were. No condition. -/
import Derived.Test.YtijnkofnpoapnaaDrawPool2
import Derived.Test.YtijnkofnpoapnaaDrawOpen
import Derived.Test.YtijnkofnpoapnaaPoolB
import Derived.Test.YtijnkofnpoapnaaPrice
namespace Go.Proofs.Ytijnkofnpoapnaa.fnPools
open Go.ChangeShapes Go.WideShapes Go.ChangeAt Go.RowKit

theorem parts_hi {v q n a one two : Int} (hn : n ≤ q) (ha : a < q) (h1 : one * q ≤ v * a) (h2 : two * (q - a) ≤ (v - one) * (n - a)) (hq : 0 ≤ q) : (one + two) * q ≤ v * n := by
  have m1 := Int.mul_le_mul_of_nonneg_right h1 (show 0 ≤ q - n by omega)
  have m2 := Int.mul_le_mul_of_nonneg_right h2 hq
  have m3 : (one + two) * q * (q - a) ≤ v * n * (q - a) := by grind
  exact Int.le_of_mul_le_mul_right m3 (by omega)
theorem parts_lo {v q n a one two : Int} (hn : n ≤ q) (ha : a < q) (han : a ≤ n) (h1 : v * a < (one + 1) * q) (h2 : (v - one) * (n - a) < (two + 1) * (q - a)) (hq : 0 < q) : v * n < (one + two + 2) * q := by
  have m1 := Int.mul_le_mul_of_nonneg_right (Int.le_of_lt h1) (show 0 ≤ q - n by omega)
  have m2 := Int.mul_lt_mul_of_pos_right h2 hq
  have m4 := Int.mul_nonneg (show 0 ≤ q by omega) (show 0 ≤ n - a by omega)
  have m3 : v * n * (q - a) < (one + two + 2) * q * (q - a) := by grind
  exact Int.lt_of_mul_lt_mul_right m3 (by omega)
theorem frac_le {c n v q g h : Nat} (hh : 0 < h) (hg : 0 < g) (hle : c * h * (q * g) ≤ v * g * (n * h)) : c * q ≤ v * n := by
  have : (g * h) * (c * q) ≤ (g * h) * (v * n) := by grind
  exact Nat.le_of_mul_le_mul_left this (Nat.mul_pos hg hh)
/-- The price of what is taken is not above the price of the pool. -/
theorem price_le {q v n k : Nat} (hq : 0 < q) (hn : 0 < n) (hk : k * q ≤ v * n) :
    (k / Nat.gcd k n) * (q / Nat.gcd v q) ≤ (v / Nat.gcd v q) * (n / Nat.gcd k n) := by
  have g1 := Nat.gcd_pos_of_pos_right k hn
  have g2 := Nat.gcd_pos_of_pos_right v hq
  refine frac_le g1 g2 ?_
  rw [Nat.div_mul_cancel (Nat.gcd_dvd_left k n), Nat.div_mul_cancel (Nat.gcd_dvd_right v q), Nat.div_mul_cancel (Nat.gcd_dvd_left v q), Nat.div_mul_cancel (Nat.gcd_dvd_right k n)]
  exact hk
theorem take_true {q v n : Int} (h : takeOk q v n = true) : isPool q v = true ∧ 1 ≤ n ∧ n ≤ q ∧ 0 ≤ v ∧ v ≤ 1000000000 ∧ q ≤ 1000000000 := by
  simp only [takeOk, Bool.and_eq_true, inB_true] at h
  have := isPool_true h.1
  exact ⟨h.1, h.2.1, h.2.2, by omega, by omega, by omega⟩
theorem take_mk {q v n : Int} (h : isPool q v = true) (h1 : 1 ≤ n) (h2 : n ≤ q) : takeOk q v n = true := by
  rw [takeOk, h, Bool.true_and, inB_true]; exact ⟨h1, h2⟩
theorem pool_mk {q v : Int} (h1 : 0 ≤ q) (h2 : q ≤ 1000000000) (h3 : 0 ≤ v) (h4 : v ≤ 1000000000) (h5 : 0 < q ∨ v = 0) : isPool q v = true := by
  simp only [isPool, inB, Bool.and_eq_true, Bool.or_eq_true, decide_eq_true_eq, beq_iff_eq]
  exact ⟨⟨h1, h2⟩, ⟨h3, h4⟩, h5⟩
theorem cost_bd {q v n : Int} (h : takeOk q v n = true) : 0 ≤ takeCost q v n ∧ takeCost q v n ≤ v ∧ takeCost q v n * q ≤ v * n ∧ v * n < (takeCost q v n + 1) * q := by
  obtain ⟨_, h1, h2, h3, _, _⟩ := take_true h
  have b := share_bd (q := q) (v := v) (n := n) (by omega) h3 (by omega) h2
  exact ⟨b.1, b.2, Int.ediv_mul_le _ (by omega), Int.lt_ediv_add_one_mul_self _ (by omega)⟩
theorem left_pool {q v n : Int} (h : takeOk q v n = true) : isPool (q - n) (v - takeCost q v n) = true := by
  obtain ⟨hp, h1, h2, h3, h4, h5⟩ := take_true h
  obtain ⟨c1, c2, _, _⟩ := cost_bd h
  refine pool_mk (by omega) (by omega) (by omega) (by omega) ?_
  by_cases e : n = q
  · right
    subst e
    have : takeCost n v n = v := Int.mul_ediv_cancel _ (by omega)
    omega
  · left; omega
theorem back_ok {q v n : Int} (h : takeOk q v n = true) : addRes (q - n) (v - takeCost q v n) n (takeCost q v n) = .tuple #[.agg #[.int .i64 q, .int .i64 v], .bool true] := by
  obtain ⟨hp, h1, h2, h3, h4, h5⟩ := take_true h
  obtain ⟨c1, c2, _, _⟩ := cost_bd h
  have e1 : q - n + n = q := by omega
  have e2 : v - takeCost q v n + takeCost q v n = v := by omega
  have ok : addOk (q - n) (v - takeCost q v n) n (takeCost q v n) = true := by
    rw [addOk, left_pool h, e1, e2, hp, inB_true.2 ⟨h1, by omega⟩, inB_true.2 ⟨c1, by omega⟩]; rfl
  rw [addRes_yes ok, e1, e2]
theorem two_parts {q v n a : Int} (h : takeOk q v n = true) (h1 : 1 ≤ a) (h2 : a < n) :
    takeOk q v a = true ∧ takeOk (q - a) (v - takeCost q v a) (n - a) = true ∧ takeCost q v a + takeCost (q - a) (v - takeCost q v a) (n - a) - takeCost q v n ≤ 1 ∧ takeCost q v n - takeCost q v a - takeCost (q - a) (v - takeCost q v a) (n - a) ≤ 1 := by
  obtain ⟨hp, k1, k2, k3, k4, k5⟩ := take_true h
  have oa := take_mk hp h1 (show a ≤ q by omega)
  have ob := take_mk (left_pool oa) (show 1 ≤ n - a by omega) (by omega)
  obtain ⟨_, _, a1, a2⟩ := cost_bd oa
  obtain ⟨_, _, b1, b2⟩ := cost_bd ob
  have hi := parts_hi (v := v) (q := q) (n := n) (a := a) k2 (by omega) a1 b1 (by omega)
  have lo := parts_lo (v := v) (q := q) (n := n) (a := a) k2 (by omega) (by omega) a2 b2 (by omega)
  refine ⟨oa, ob, ?_, ?_⟩
  · have : takeCost q v a + takeCost (q - a) (v - takeCost q v a) (n - a) ≤ takeCost q v n := (Int.le_ediv_iff_mul_le (by omega)).2 hi
    omega
  · have : takeCost q v n < takeCost q v a + takeCost (q - a) (v - takeCost q v a) (n - a) + 2 := (Int.ediv_lt_iff_lt_mul (by omega)).2 lo
    omega

def cmpN (a b c d : Nat) : Int := if a * d < c * b then -1 else if c * b < a * d then 1 else 0
theorem cmpN_le {a b c d : Nat} (h : a * d ≤ c * b) : decide (0 < cmpN a b c d) = false := by
  unfold cmpN
  split
  · rfl
  · rw [if_neg (by omega)]; rfl
set_option maxHeartbeats 1000000 in
theorem specCompare (a b c d : Nat) (w : World) (hb : 1 ≤ b ∧ b ≤ 1000000000) (ha : a ≤ 1000000000) (hd : 1 ≤ d ∧ d ≤ 1000000000) (hc : c ≤ 1000000000) (g1 : Nat.gcd a b = 1) (g2 : Nat.gcd c d = 1) :
    Calls Try.prog 42 #[.agg #[.int .i64 a, .int .i64 b], .agg #[.int .i64 c, .int .i64 d]] w fun e w' => e = .returned (.int .i64 (cmpN a b c d)) ∧ Below w.heap.size w w' := by
  have G1 := Lib.hid g1; have G2 := Lib.hid g2; clear g1 g2
  have m1 := Nat.mul_le_mul ha hd.2
  have m2 := Nat.mul_le_mul hc hb.2
  have e1 : ((a : Int) * d) = ((a * d : Nat) : Int) := by simp
  have e2 : ((c : Int) * b) = ((c * b : Nat) : Int) := by simp
  have q1 : 0 ≤ (a : Int) * d ∧ (a : Int) * d ≤ 1000000000000000000 := by omega
  have q2 : 0 ≤ (c : Int) * b ∧ (c : Int) * b ≤ 1000000000000000000 := by omega
  have E1 := Lib.hid e1; have E2 := Lib.hid e2
  clear e1 e2 m1 m2
  go_enter Try.func42, Try.ntmps42
  go_wp2_with fail
  refine (specIsRatio a b _ hb.1 hb.2 ha G1.out).mono ?_; rintro e w1 ⟨rfl, hb1⟩
  have X1 := Lib.hid (blk_keep hb1 (blk_new2 w _ _))
  have X0 := Lib.hid (blk_keep hb1 (blk_alloc (blk_new1 w _) _))
  have b1 := below_then (below_then (below_box w _) (below_box _ _)) hb1
  have x0 := blk_at X1.out (j := 0) rfl; have x1 := blk_at X1.out (j := 1) rfl
  clear hb1
  go_wp2_with fail
  refine (specIsRatio c d _ hd.1 hd.2 hc G2.out).mono ?_; rintro e w2 ⟨rfl, hb2⟩
  have X1 := Lib.hid (blk_keep hb2 X1.out)
  have X0 := Lib.hid (blk_keep hb2 X0.out)
  have b2 := below_then b1 hb2
  have x0 := blk_at X1.out (j := 0) rfl; have x1 := blk_at X1.out (j := 1) rfl
  have y0 := blk_at X0.out (j := 0) rfl; have y1 := blk_at X0.out (j := 1) rfl
  clear hb2 b1
  go_wp2_with fail
  all_goals
    go_ret
    refine ⟨ret_int ?_, b2⟩
    have e1 := E1.out; have e2 := E2.out
    unfold cmpN
    first
      | (rw [if_pos (by omega)])
      | (rw [if_neg (by omega), if_pos (by omega)])
      | (rw [if_neg (by omega), if_neg (by omega)])

set_option maxHeartbeats 4000000 in
theorem walk (w : World) (A : Option Addr) (n c : Nat) (bs : List Int) (hr : RS w 1 A n (byteCells bs)) (hn : n ≤ 9223372036854775807) (hok : ∀ y ∈ bs, 0 ≤ y ∧ y < 256) :
    Calls Try.prog 8 #[.slice A n c] w fun e w' => e = .returned (.bool true) ∧ Below w.heap.size w w' := by
  by_cases hbig : 1048576 < n
  · go_enter Try.func8, Try.ntmps8
    go_wp2_with (go_at_call 28; refine (big_any _ _ _ _ hn).mono ?_; rw [decide_eq_true hbig]; rintro e w' ⟨rfl, rfl⟩)
    go_ret
    exact ⟨rfl, Below.refl _ _⟩
  · go_enter Try.func8, Try.ntmps8
    go_wp2_with fail
    refine (big_any _ _ _ _ hn).mono ?_; rw [decide_eq_false hbig]; rintro e w' ⟨rfl, rfl⟩
    go_wp2_with fail
    refine (DrawTakeFromPool_any _ _ _ _ _ hr hok (by omega)).mono ?_; rintro e w1 ⟨q, v, m, rfl, hq, hv, hm, b1⟩
    go_wp2_with fail
    cases is : takeOk q v m
    · have T := Lib.hid (takeRes_no is)
      clear is
      refine (implTakeFromPool _ _ _ _).mono ?_; rw [T.out]; rintro e w2 ⟨rfl, hb2⟩
      have X := Lib.hid (blk_keep hb2 (blk_new1 w1 _))
      have b2 := below_then (below_then b1 (below_box w1 _)) hb2
      have x0 := cell_alloc (blk_at X.out (j := 0) rfl); have x1 := cell_alloc (blk_at X.out (j := 1) rfl)
      clear b1 hb2
      go_wp2_with fail
      refine (specTakeFromPool _ _ _ _).mono ?_; rw [T.out]; rintro e w3 ⟨rfl, hb3⟩
      have b3 := below_then (below_then b2 (below_box w2 _)) hb3
      clear x0 x1 b2 hb3
      go_wp2_with fail
      go_ret
      exact ⟨rfl, below_then b3 (below_box _ _)⟩
    · have T := Lib.hid (takeRes_yes is)
      have IS := Lib.hid is
      obtain ⟨hp, k1, k2, k3, k4, k5⟩ := take_true is
      obtain ⟨c1, c2, c3, c4⟩ := cost_bd is
      have HP := Lib.hid hp
      clear is hp
      obtain ⟨cost, hcost⟩ : ∃ k, takeCost q v m = k := ⟨_, rfl⟩
      rw [hcost] at c1 c2 c3 c4
      have HC := Lib.hid hcost; clear hcost
      refine (implTakeFromPool _ _ _ _).mono ?_; rw [T.out, HC.out]; rintro e w2 ⟨rfl, hb2⟩
      have X := Lib.hid (blk_keep hb2 (blk_new1 w1 _))
      have b2 := below_then (below_then b1 (below_box w1 _)) hb2
      have x0 := cell_alloc (blk_at X.out (j := 0) rfl); have x1 := cell_alloc (blk_at X.out (j := 1) rfl)
      clear b1 hb2
      go_wp2_with fail
      refine (specTakeFromPool _ _ _ _).mono ?_; rw [T.out, HC.out]; rintro e w3 ⟨rfl, hb3⟩
      have Y := Lib.hid (blk_keep hb3 (blk_new1 w2 _))
      have X := Lib.hid (blk_keep hb3 (blk_alloc X.out _))
      have b3 := below_then (below_then b2 (below_box w2 _)) hb3
      clear x0 x1 b2 hb3
      have x0 := cell_alloc (blk_at X.out (j := 0) rfl); have x1 := cell_alloc (blk_at X.out (j := 1) rfl)
      have y0 := cell_alloc (blk_at Y.out (j := 0) rfl); have y1 := cell_alloc (blk_at Y.out (j := 1) rfl)
      have t1 : v - cost + cost = v := by omega
      have t2 : q - m + m = q := by omega
      go_wp2_with fail
      have LP := Lib.hid (left_pool IS.out)
      rw [HC.out] at LP
      refine (specIsPool _ _ _).mono ?_; rw [LP.out]; rintro e w4 ⟨rfl, hb4⟩
      have Y := Lib.hid (blk_keep hb4 (blk_alloc Y.out _))
      have X := Lib.hid (blk_keep hb4 (blk_alloc X.out _))
      have b4 := below_then (below_then b3 (below_box w3 _)) hb4
      clear x0 x1 y0 y1 b3 hb4
      have x0 := blk_at X.out (j := 0) rfl; have x1 := blk_at X.out (j := 1) rfl
      go_wp2_with fail
      obtain ⟨Q, rfl⟩ := Int.eq_ofNat_of_zero_le (show 0 ≤ q by omega)
      obtain ⟨V, rfl⟩ := Int.eq_ofNat_of_zero_le k3
      obtain ⟨M, rfl⟩ := Int.eq_ofNat_of_zero_le (show 0 ≤ m by omega)
      obtain ⟨C, rfl⟩ := Int.eq_ofNat_of_zero_le c1
      obtain ⟨e1, e2⟩ := price_yes HP.out (show 0 < Q by omega)
      have E1 := Lib.hid e1; have E2 := Lib.hid e2
      clear e1 e2
      refine (implPoolPrice _ _ _).mono ?_; rw [E1.out, E2.out]; rintro e w5 ⟨rfl, hb5⟩
      have Y := Lib.hid (blk_keep hb5 Y.out)
      have X := Lib.hid (blk_keep hb5 X.out)
      have b5 := below_then b4 hb5
      clear x0 x1 b4 hb5
      have hle : C * Q ≤ V * M := by
        have : ((C * Q : Nat) : Int) ≤ ((V * M : Nat) : Int) := by simpa using c3
        omega
      obtain ⟨p1, p2, p3, p4⟩ := ratio_parts (n := V) (show 1 ≤ Q by omega)
      have p5 := Nat.div_le_self V (Nat.gcd V Q)
      have p6 := Nat.div_le_self Q (Nat.gcd V Q)
      obtain ⟨r1, r2, r3, r4⟩ := ratio_parts (n := C) (show 1 ≤ M by omega)
      have r5 := Nat.div_le_self C (Nat.gcd C M)
      have r6 := Nat.div_le_self M (Nat.gcd C M)
      have P4 := Lib.hid p4; have R4 := Lib.hid r4
      have PL := Lib.hid (cmpN_le (price_le (show 0 < Q by omega) (show 0 < M by omega) hle))
      clear p4 r4 hle c3 c4
      generalize V / Nat.gcd V Q = n1 at *
      generalize Q / Nat.gcd V Q = d1 at *
      have Z := Lib.hid (blk_new1 w5 (Obj.cells #[.int .i64 (n1 : Int), .int .i64 (d1 : Int)] 25))
      have z0 := cell_wext (blk_at Z.out (j := 0) rfl); have z1 := cell_wext (blk_at Z.out (j := 1) rfl)
      have D := PL.out
      go_wp2_with fail
      refine wp_region_ext (by kernel_rfl) (by kernel_rfl) ?_
      repeat (go_big_quiet_step (first | (go_at_call 40; exact ext_call (specIsRatio _ _ _ (by assumption) (by omega) (by omega) (by first | exact P4.out | exact R4.out))) | (go_at_call 41; exact ext_call (specMakeRatio _ _ _ (by omega) (by omega) (by omega))) | (go_at_call 42; exact ext_call (specCompare _ _ _ _ _ ⟨by assumption, by omega⟩ (by omega) ⟨by assumption, by omega⟩ (by omega) R4.out P4.out))))
      refine wpQuiet_nil ?_
      intro _ hw'; obtain ⟨nq, hw''⟩ := hw'; subst hw''
      have Y := Lib.hid (blk_keep (below_wext _ nq) (blk_alloc Y.out (Obj.cells #[.int .i64 (n1 : Int), .int .i64 (d1 : Int)] 25)))
      have X := Lib.hid (blk_keep (below_wext _ nq) (blk_alloc X.out (Obj.cells #[.int .i64 (n1 : Int), .int .i64 (d1 : Int)] 25)))
      have b6 := below_then (below_then b5 (below_box w5 (Obj.cells #[.int .i64 (n1 : Int), .int .i64 (d1 : Int)] 25))) (below_wext _ nq)
      clear z0 z1 b5
      generalize wext (w5.alloc (Obj.cells #[.int .i64 (n1 : Int), .int .i64 (d1 : Int)] 25)) nq = w6 at *
      have y0 := blk_at Y.out (j := 0) rfl; have y1 := blk_at Y.out (j := 1) rfl
      go_wp2_with fail
      have BO := Lib.hid (back_ok IS.out)
      rw [HC.out] at BO
      refine (implAddToPool _ _ _ _ _).mono ?_; rw [BO.out]; rintro e w7 ⟨rfl, hb7⟩
      have X := Lib.hid (blk_keep hb7 X.out)
      have b7 := below_then b6 hb7
      clear y0 y1 b6 hb7 D
      have x0 := cell_alloc (blk_at X.out (j := 0) rfl); have x1 := cell_alloc (blk_at X.out (j := 1) rfl)
      have b7' := below_then b7 (below_box w7 (Obj.cells #[.int .i64 (Q : Int), .int .i64 (V : Int)] 27))
      by_cases q0 : (M : Int) / 2 = 0
      · go_wp2_with fail
        go_ret
        exact ⟨rfl, b7'⟩
      · have TP := Lib.hid (two_parts IS.out (show 1 ≤ (M : Int) / 2 by omega) (by omega))
        obtain ⟨a, ea⟩ : ∃ a, (M : Int) / 2 = a := ⟨_, rfl⟩
        rw [HC.out, ea] at TP
        have a1 : 1 ≤ a := by omega
        have a2 : a < M := by omega
        have EA := Lib.hid ea
        clear q0
        go_wp2_with fail
        obtain ⟨o1, o2, d1, d2⟩ := TP.out
        have T1 := Lib.hid (takeRes_yes o1)
        have T2 := Lib.hid (takeRes_yes o2)
        obtain ⟨f1, f2, _, _⟩ := cost_bd o1
        obtain ⟨f3, f4, _, _⟩ := cost_bd o2
        clear o1 o2 ea
        refine (implTakeFromPool _ _ _ _).mono ?_; rw [T1.out]; rintro e w8 ⟨rfl, hb8⟩
        generalize takeCost (Q : Int) (V : Int) a = one at *
        have Z := Lib.hid (blk_new1 w8 (Obj.cells #[.int .i64 ((Q : Int) - a), .int .i64 ((V : Int) - one)] 27))
        have b8 := below_then b7' hb8
        clear x0 x1 b7 b7' hb8
        have z0 := blk_at Z.out (j := 0) rfl; have z1 := blk_at Z.out (j := 1) rfl
        go_wp2_with fail
        refine (implTakeFromPool _ _ _ _).mono ?_; rw [T2.out]; rintro e w9 ⟨rfl, hb9⟩
        generalize takeCost ((Q : Int) - a) ((V : Int) - one) ((M : Int) - a) = two at *
        have b9 := below_then (below_then b8 (below_box w8 (Obj.cells #[.int .i64 ((Q : Int) - a), .int .i64 ((V : Int) - one)] 27))) hb9
        clear z0 z1 b8 hb9
        go_wp2_with fail
        go_ret
        exact ⟨rfl, below_then b9 (below_box _ _)⟩
set_option maxRecDepth 100000 in
theorem lifted (os : Os) (started : os.Started) (H : Type) (enc : TypeId × Value → H) :
    ReturnsInHanded {} Try.checked os 8 .any (Rows.fnPoolsSpec.pre6 enc Try.prog Try.f8 Rows.fnPoolsRow.domain false) (Rows.fnPoolsSpec.post enc Try.prog Try.f8 false true false false) := by
  refine returnsInHanded_of_change (C := Try.checked) Try.own started (by kernel_rfl) Try.func8
    (ChangeSpec.witness6 (enc := enc) (C := Try.checked) false ⟨#[], #[.slice none 0 0], []⟩ 8 (by kernel_rfl) (by kernel_rfl) (by kernel_rfl) (by kernel_rfl)) ?_
  intro W base args ds gs before hval0 hW hcnd _
  have hval : ∀ (j : Nat) t v, Try.f8.params[j]? = some t → args[j]? = some v → Value.okWide Try.prog W .any base t v := hval0
  have hW' := hW
  obtain ⟨p, q, hA0, hV, rfl, hfz, hnd⟩ := hW
  have hA : DataW.TrodAll enc Try.prog W 0 (fun _ => true) true Try.f8.params.toList args.toList ds p := hA0
  rw [Try.params8] at hA hval
  obtain ⟨v0, vs0, d0, ds0, p0, q0, hargs, rfl, rfl, h0, r0⟩ := trodAll_cons hA
  obtain ⟨rfl, rfl, rfl⟩ := trodAll_nil r0
  obtain rfl : args = #[v0] := by cases args; simp_all
  obtain ⟨rfl, rfl⟩ := trodVars_none hV
  obtain ⟨Acode, ncode, ccode, code, rfl, hrcode, hncode, hokcode⟩ := open_bytes (hval 0 48 v0 rfl rfl) h0
  refine (walk W Acode ncode ccode code hrcode hncode hokcode).mono fun e W' ⟨he, hb⟩ => ?_
  subst he
  exact ⟨_, rfl, law_post Try.laidOut (by kernel_rfl) (by kernel_rfl) Try.underlying4 hW' rfl ⟨rfl, rfl, rfl⟩ hb⟩

theorem proved : Rows.FnPoolsSaid :=
  OpenClaim.holds_of_wide 8 Try.f8 rfl rfl rfl rfl rfl rfl rfl ⟨rfl, rfl, rfl, rfl, rfl⟩ rfl rfl rfl rfl rfl (by kernel_rfl) Try.func8 (by kernel_rfl)
    (of_decide_eq_true (by kernel_rfl)) (by unfold Func.isWrapper; first | (rw [if_pos (by decide +kernel)]; kernel_rfl) | (rw [if_neg (by decide +kernel)]; exact ⟨rfl, rfl⟩))
    (fun os started H enc _ => lifted os started H enc)
#print axioms proved
end Go.Proofs.Ytijnkofnpoapnaa.fnPools
