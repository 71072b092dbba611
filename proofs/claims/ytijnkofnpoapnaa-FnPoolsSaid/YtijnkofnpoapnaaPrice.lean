/- The walks of PoolPrice. -/
import Derived.Test.YtijnkofnpoapnaaRatio
import Derived.Test.YtijnkofnpoapnaaPool
namespace Go.Proofs.Ytijnkofnpoapnaa
open Go.ChangeShapes Go.WideShapes Go.ChangeAt Go.RowKit

/-- The price of a pool: a whole and a part. -/
def priceN (q v : Int) : Int := if isPool q v && decide (0 < q) then ((v.toNat / Nat.gcd v.toNat q.toNat : Nat) : Int) else 0
def priceD (q v : Int) : Int := if isPool q v && decide (0 < q) then ((q.toNat / Nat.gcd v.toNat q.toNat : Nat) : Int) else 0
theorem price_no {q v : Int} (h : (isPool q v && decide (0 < q)) = false) : priceN q v = 0 ∧ priceD q v = 0 := by simp [priceN, priceD, h]
theorem price_yes {q v : Nat} (h : isPool q v = true) (h0 : 0 < q) : priceN q v = ((v / Nat.gcd v q : Nat) : Int) ∧ priceD q v = ((q / Nat.gcd v q : Nat) : Int) := by
  have : (isPool q v && decide (0 < (q : Int))) = true := by rw [h]; simp; omega
  rw [priceN, priceD, if_pos this, if_pos this, Int.toNat_natCast, Int.toNat_natCast]
  exact ⟨rfl, rfl⟩
theorem eqRatio_any (q v q' v' : Int) (w : World) : Calls Try.prog 14 #[.agg #[.int .i64 q, .int .i64 v], .agg #[.int .i64 q', .int .i64 v']] w fun e w' => e = .returned (.bool (decide (q = q' ∧ v = v'))) ∧ Below w.heap.size w w' := by
  go_enter Try.func14, Try.ntmps14
  go_wp2
  all_goals (go_ret; refine ⟨ret_bool ?_, by go_grown⟩; simp_all)
set_option maxHeartbeats 1000000 in
theorem implPoolPrice (q v : Int) (w : World) : Calls Try.prog 13 #[.agg #[.int .i64 q, .int .i64 v]] w fun e w' => e = .returned (.agg #[.int .i64 (priceN q v), .int .i64 (priceD q v)]) ∧ Below w.heap.size w w' := by
  cases h1 : isPool q v
  · obtain ⟨e1, e2⟩ := price_no (show (isPool q v && decide (0 < q)) = false by rw [h1]; rfl)
    rw [e1, e2]; clear e1 e2
    go_enter Try.func13, Try.ntmps13
    go_wp2_with fail
    refine (implIsPool _ _ _).mono ?_; rw [h1]; rintro e w1 ⟨rfl, hb1⟩
    have R0 := Lib.hid (blk_keep hb1 (blk_new2 _ _ _))
    have r0 := blk_at R0.out (j := 0) rfl; have r1 := blk_at R0.out (j := 1) rfl; have rf := blk_free R0.out
    have b1 := below_then (below_then (below_box w _) (below_box _ _)) hb1
    clear hb1
    go_wp2_with fail
    refine bodyPost_ret (v := .agg #[.int .i64 0, .int .i64 0]) (by simp [results, Try.results13, go_sem, r0, r1]) rfl ⟨rfl, ?_⟩
    exact (b1.setCell (Nat.le_succ _) _).setCell (Nat.le_succ _) _
  · have H1 := Lib.hid h1
    have p := isPool_true h1
    clear h1
    obtain ⟨x, rfl⟩ := Int.eq_ofNat_of_zero_le p.1
    obtain ⟨y, rfl⟩ := Int.eq_ofNat_of_zero_le p.2.2.1
    rcases Nat.eq_zero_or_pos x with h0 | h0
    · subst h0
      obtain ⟨e1, e2⟩ := price_no (show (isPool ((0 : Nat) : Int) (y : Int) && decide (0 < ((0 : Nat) : Int))) = false by simp)
      rw [e1, e2]; clear e1 e2
      have H1 := Lib.hid (show isPool 0 (y : Int) = true from H1.out)
      go_enter Try.func13, Try.ntmps13
      go_wp2_with fail
      refine (implIsPool _ _ _).mono ?_; rw [H1.out]; rintro e w1 ⟨rfl, hb1⟩
      have X0 := Lib.hid (blk_keep hb1 (blk_alloc (blk_new1 _ _) _))
      have x0 := blk_at X0.out (j := 0) rfl
      have R0 := Lib.hid (blk_keep hb1 (blk_new2 _ _ _))
      have r0 := blk_at R0.out (j := 0) rfl; have r1 := blk_at R0.out (j := 1) rfl; have rf := blk_free R0.out
      have b1 := below_then (below_then (below_box w _) (below_box _ _)) hb1
      clear hb1
      go_wp2_with fail
      refine bodyPost_ret (v := .agg #[.int .i64 0, .int .i64 0]) (by simp [results, Try.results13, go_sem, r0, r1]) rfl ⟨rfl, ?_⟩
      exact (b1.setCell (Nat.le_succ _) _).setCell (Nat.le_succ _) _
    · obtain ⟨e1, e2⟩ := price_yes H1.out h0
      rw [e1, e2]; clear e1 e2
      have hz : ((x : Int) == 0) = false := by simp; omega
      go_enter Try.func13, Try.ntmps13
      go_wp2_with fail
      refine (implIsPool _ _ _).mono ?_; rw [H1.out]; rintro e w1 ⟨rfl, hb1⟩
      have X0 := Lib.hid (blk_keep hb1 (blk_alloc (blk_new1 _ _) _))
      have x0 := blk_at X0.out (j := 0) rfl; have x1 := blk_at X0.out (j := 1) rfl
      have R0 := Lib.hid (blk_keep hb1 (blk_new2 _ _ _))
      have b1 := below_then (below_then (below_box w _) (below_box _ _)) hb1
      clear hb1
      go_wp2_with fail
      refine (implMakeRatio y x _ (by omega) (by omega) (by omega)).mono ?_; rintro e w2 ⟨rfl, hb2⟩
      have R2 := Lib.hid (blk_keep hb2 R0.out)
      have r0 := blk_at R2.out (j := 0) rfl; have r1 := blk_at R2.out (j := 1) rfl; have rf := blk_free R2.out
      have b2 := below_then b1 hb2
      clear hb2 x0 x1
      go_wp2_with fail
      refine bodyPost_ret (v := .agg #[.int .i64 ((y / Nat.gcd y x : Nat) : Int), .int .i64 ((x / Nat.gcd y x : Nat) : Int)]) (by simp [results, Try.results13, go_sem, r0, r1]) rfl ⟨rfl, ?_⟩
      exact (b2.setCell (Nat.le_succ _) _).setCell (Nat.le_succ _) _
set_option maxHeartbeats 1000000 in
theorem specPoolPrice (q v : Int) (w : World) : Calls Try.prog 11 #[.agg #[.int .i64 q, .int .i64 v]] w fun e w' => e = .returned (.agg #[.int .i64 (priceN q v), .int .i64 (priceD q v)]) ∧ Below w.heap.size w w' := by
  cases h1 : isPool q v
  · obtain ⟨e1, e2⟩ := price_no (show (isPool q v && decide (0 < q)) = false by rw [h1]; rfl)
    rw [e1, e2]; clear e1 e2
    go_enter Try.func11, Try.ntmps11
    go_wp2_with fail
    refine (specIsPool _ _ _).mono ?_; rw [h1]; rintro e w1 ⟨rfl, hb1⟩
    have R0 := Lib.hid (blk_keep hb1 (blk_new2 _ _ _))
    have r0 := blk_at R0.out (j := 0) rfl; have r1 := blk_at R0.out (j := 1) rfl; have rf := blk_free R0.out
    have b1 := below_then (below_then (below_box w _) (below_box _ _)) hb1
    clear hb1
    go_wp2_with fail
    refine bodyPost_ret (v := .agg #[.int .i64 0, .int .i64 0]) (by simp [results, Try.results11, go_sem, r0, r1]) rfl ⟨rfl, ?_⟩
    exact (b1.setCell (Nat.le_succ _) _).setCell (Nat.le_succ _) _
  · have H1 := Lib.hid h1
    have p := isPool_true h1
    clear h1
    obtain ⟨x, rfl⟩ := Int.eq_ofNat_of_zero_le p.1
    obtain ⟨y, rfl⟩ := Int.eq_ofNat_of_zero_le p.2.2.1
    rcases Nat.eq_zero_or_pos x with h0 | h0
    · subst h0
      obtain ⟨e1, e2⟩ := price_no (show (isPool ((0 : Nat) : Int) (y : Int) && decide (0 < ((0 : Nat) : Int))) = false by simp)
      rw [e1, e2]; clear e1 e2
      have H1 := Lib.hid (show isPool 0 (y : Int) = true from H1.out)
      go_enter Try.func11, Try.ntmps11
      go_wp2_with fail
      refine (specIsPool _ _ _).mono ?_; rw [H1.out]; rintro e w1 ⟨rfl, hb1⟩
      have X0 := Lib.hid (blk_keep hb1 (blk_alloc (blk_new1 _ _) _))
      have x0 := blk_at X0.out (j := 0) rfl
      have R0 := Lib.hid (blk_keep hb1 (blk_new2 _ _ _))
      have r0 := blk_at R0.out (j := 0) rfl; have r1 := blk_at R0.out (j := 1) rfl; have rf := blk_free R0.out
      have b1 := below_then (below_then (below_box w _) (below_box _ _)) hb1
      clear hb1
      go_wp2_with fail
      refine bodyPost_ret (v := .agg #[.int .i64 0, .int .i64 0]) (by simp [results, Try.results11, go_sem, r0, r1]) rfl ⟨rfl, ?_⟩
      exact (b1.setCell (Nat.le_succ _) _).setCell (Nat.le_succ _) _
    · obtain ⟨e1, e2⟩ := price_yes H1.out h0
      rw [e1, e2]; clear e1 e2
      have hz : ((x : Int) == 0) = false := by simp; omega
      go_enter Try.func11, Try.ntmps11
      go_wp2_with fail
      refine (specIsPool _ _ _).mono ?_; rw [H1.out]; rintro e w1 ⟨rfl, hb1⟩
      have X0 := Lib.hid (blk_keep hb1 (blk_alloc (blk_new1 _ _) _))
      have x0 := blk_at X0.out (j := 0) rfl; have x1 := blk_at X0.out (j := 1) rfl
      have R0 := Lib.hid (blk_keep hb1 (blk_new2 _ _ _))
      have b1 := below_then (below_then (below_box w _) (below_box _ _)) hb1
      clear hb1
      go_wp2_with fail
      refine (specMakeRatio y x _ (by omega) (by omega) (by omega)).mono ?_; rintro e w2 ⟨rfl, hb2⟩
      have R2 := Lib.hid (blk_keep hb2 R0.out)
      have r0 := blk_at R2.out (j := 0) rfl; have r1 := blk_at R2.out (j := 1) rfl; have rf := blk_free R2.out
      have b2 := below_then b1 hb2
      clear hb2 x0 x1
      go_wp2_with fail
      refine bodyPost_ret (v := .agg #[.int .i64 ((y / Nat.gcd y x : Nat) : Int), .int .i64 ((x / Nat.gcd y x : Nat) : Int)]) (by simp [results, Try.results11, go_sem, r0, r1]) rfl ⟨rfl, ?_⟩
      exact (b2.setCell (Nat.le_succ _) _).setCell (Nat.le_succ _) _
end Go.Proofs.Ytijnkofnpoapnaa
