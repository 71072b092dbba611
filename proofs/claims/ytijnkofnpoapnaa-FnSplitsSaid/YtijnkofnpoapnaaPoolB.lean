/- AddToPool and TakeFromPool: the walks of the program's and the reference's. No condition. -/
import Derived.Test.YtijnkofnpoapnaaPool
namespace Go.Proofs.Ytijnkofnpoapnaa
open Go.ChangeShapes Go.WideShapes Go.ChangeAt Go.RowKit

def addOk (q v n m : Int) : Bool := isPool q v && (inB n 1 1000000000 && (inB m 0 1000000000 && isPool (q + n) (v + m)))
def takeOk (q v n : Int) : Bool := isPool q v && inB n 1 q
def takeCost (q v n : Int) : Int := v * n / q

def addRes (q v n m : Int) : Value := if addOk q v n m then .tuple #[.agg #[.int .i64 (q + n), .int .i64 (v + m)], .bool true] else .tuple #[.agg #[.int .i64 0, .int .i64 0], .bool false]
def takeRes (q v n : Int) : Value := if takeOk q v n then .tuple #[.agg #[.int .i64 (q - n), .int .i64 (v - takeCost q v n)], .int .i64 (takeCost q v n), .bool true] else .tuple #[.agg #[.int .i64 0, .int .i64 0], .int .i64 0, .bool false]
theorem addRes_no {q v n m : Int} (h : addOk q v n m = false) : addRes q v n m = .tuple #[.agg #[.int .i64 0, .int .i64 0], .bool false] := by simp [addRes, h]
theorem addRes_yes {q v n m : Int} (h : addOk q v n m = true) : addRes q v n m = .tuple #[.agg #[.int .i64 (q + n), .int .i64 (v + m)], .bool true] := by simp [addRes, h]

theorem addRes_form (q v n m : Int) : ∃ a b ok, addRes q v n m = .tuple #[.agg #[.int .i64 a, .int .i64 b], .bool ok] := by
  unfold addRes; split
  · exact ⟨_, _, _, rfl⟩
  · exact ⟨_, _, _, rfl⟩
theorem takeRes_form (q v n : Int) : ∃ a b c ok, takeRes q v n = .tuple #[.agg #[.int .i64 a, .int .i64 b], .int .i64 c, .bool ok] := by
  unfold takeRes; split
  · exact ⟨_, _, _, _, rfl⟩
  · exact ⟨_, _, _, _, rfl⟩
theorem takeRes_no {q v n : Int} (h : takeOk q v n = false) : takeRes q v n = .tuple #[.agg #[.int .i64 0, .int .i64 0], .int .i64 0, .bool false] := by simp [takeRes, h]
theorem takeRes_yes {q v n : Int} (h : takeOk q v n = true) : takeRes q v n = .tuple #[.agg #[.int .i64 (q - n), .int .i64 (v - takeCost q v n)], .int .i64 (takeCost q v n), .bool true] := by simp [takeRes, h]
/-- The share of a part is not below 0 and not above the whole. -/
theorem share_bd {q v n : Int} (hq : 0 < q) (hv : 0 ≤ v) (hn : 0 ≤ n) (hnq : n ≤ q) : 0 ≤ v * n / q ∧ v * n / q ≤ v := by
  refine ⟨Int.ediv_nonneg (Int.mul_nonneg hv hn) (by omega), ?_⟩
  apply Int.ediv_le_of_le_mul hq
  exact Int.mul_le_mul_of_nonneg_left hnq hv

set_option maxHeartbeats 1000000 in
theorem implAddToPool (q v n m : Int) (w : World) : Calls Try.prog 43 #[.agg #[.int .i64 q, .int .i64 v], .int .i64 n, .int .i64 m] w fun e w' => e = .returned (addRes q v n m) ∧ Below w.heap.size w w' := by
  have ways : (isPool q v = false) ∨ (isPool q v = true ∧ inB n 1 1000000000 = false) ∨ (isPool q v = true ∧ inB n 1 1000000000 = true ∧ inB m 0 1000000000 = false) ∨ (isPool q v = true ∧ inB n 1 1000000000 = true ∧ inB m 0 1000000000 = true) := by
    cases isPool q v <;> cases inB n 1 1000000000 <;> cases inB m 0 1000000000 <;> simp
  rcases ways with h1 | ⟨h1, h2⟩ | ⟨h1, h2, h3⟩ | ⟨h1, h2, h3⟩
  case inr.inr.inr =>
    have p1 := isPool_true h1; have p2 := inB_true.1 h2; have p3 := inB_true.1 h3
    cases h4 : isPool (q + n) (v + m)
    all_goals
      go_enter Try.func43, Try.ntmps43
      go_wp2_with fail
      refine (implIsPool _ _ _).mono ?_; rw [h1]; rintro e w1 ⟨rfl, hb1⟩
      have X0 := Lib.hid (blk_keep hb1 (blk_alloc (blk_new1 _ _) _))
      have R0 := Lib.hid (blk_keep hb1 (blk_new2 _ _ _))
      have x0 := blk_at X0.out (j := 0) rfl; have x1 := blk_at X0.out (j := 1) rfl
      have r0 := blk_at R0.out (j := 0) rfl; have r1 := blk_at R0.out (j := 1) rfl; have rf := blk_free R0.out
      have b1 := below_then (below_then (below_box w _) (below_box _ _)) hb1
      clear hb1
      go_wp2_with (go_at_call 58; refine (impl_in _ _ _ _).mono ?_; rintro e w' ⟨rfl, rfl⟩)
      refine (implIsPool _ _ _).mono ?_; rw [h4]; rintro e w2 ⟨rfl, hb2⟩
      have R2 := Lib.hid (blk_keep hb2 (blk_alloc R0.out _))
      have O2 := Lib.hid (blk_keep hb2 (blk_new1 _ _))
      have s0 := blk_at R2.out (j := 0) rfl; have s1 := blk_at R2.out (j := 1) rfl; have sf := blk_free R2.out
      have o0 := blk_at O2.out (j := 0) rfl; have o1 := blk_at O2.out (j := 1) rfl
      have b2 := below_then (below_then b1 (below_box _ _)) hb2
      clear hb2 r0 r1 rf x0 x1
      go_wp2_with fail
    · refine bodyPost_ret (v := .tuple #[.agg #[.int .i64 0, .int .i64 0], .bool false]) (by simp [results, Try.results43, go_sem, s0, s1]) rfl ⟨by rw [addRes_no (by simp [addOk, h4])], ?_⟩
      exact (b2.setCell (Nat.le_succ _) _).setCell (Nat.le_succ _) _
    · refine bodyPost_ret (v := .tuple #[.agg #[.int .i64 (q + n), .int .i64 (v + m)], .bool true]) (by simp [results, Try.results43, go_sem, s0, s1]) rfl ⟨by rw [addRes_yes (by simp [addOk, h1, h2, h3, h4])], ?_⟩
      exact (b2.setCell (Nat.le_succ _) _).setCell (Nat.le_succ _) _
  all_goals
    have hno : addOk q v n m = false := by simp [addOk, *]
    have HNO := Lib.hid hno; clear hno
    go_enter Try.func43, Try.ntmps43
    go_wp2_with fail
    refine (implIsPool _ _ _).mono ?_; rw [h1]; rintro e w1 ⟨rfl, hb1⟩
    have R0 := Lib.hid (blk_keep hb1 (blk_new2 _ _ _))
    have r0 := blk_at R0.out (j := 0) rfl; have r1 := blk_at R0.out (j := 1) rfl; have rf := blk_free R0.out
    have b1 := below_then (below_then (below_box w _) (below_box _ _)) hb1
    clear hb1
    go_wp2_with (go_at_call 58; refine (impl_in _ _ _ _).mono ?_; rintro e w' ⟨rfl, rfl⟩)
    refine bodyPost_ret (v := .tuple #[.agg #[.int .i64 0, .int .i64 0], .bool false]) (by simp [results, Try.results43, go_sem, r0, r1]) rfl ⟨by rw [addRes_no HNO.out], ?_⟩
    exact (b1.setCell (Nat.le_succ _) _).setCell (Nat.le_succ _) _
set_option maxHeartbeats 1000000 in
theorem implTakeFromPool (q v n : Int) (w : World) : Calls Try.prog 38 #[.agg #[.int .i64 q, .int .i64 v], .int .i64 n] w fun e w' => e = .returned (takeRes q v n) ∧ Below w.heap.size w w' := by
  have ways : (isPool q v = false) ∨ (isPool q v = true ∧ inB n 1 q = false) ∨ (isPool q v = true ∧ inB n 1 q = true) := by
    cases isPool q v <;> cases inB n 1 q <;> simp
  rcases ways with h1 | ⟨h1, h2⟩ | ⟨h1, h2⟩
  case inr.inr =>
    have p1 := isPool_true h1; have p2 := inB_true.1 h2
    have m1 := mul_bd (a := v) (b := n) (M := 1000000000) (N := 1000000000) (by omega) (by omega) (by omega) (by omega)
    have m2 : 0 ≤ v * n := Int.mul_nonneg (by omega) (by omega)
    obtain ⟨m3, m4⟩ := share_bd (q := q) (v := v) (n := n) (by omega) (by omega) (by omega) (by omega)
    go_enter Try.func38, Try.ntmps38
    go_wp2_with fail
    refine (implIsPool _ _ _).mono ?_; rw [h1]; rintro e w1 ⟨rfl, hb1⟩
    have X0 := Lib.hid (blk_keep hb1 (blk_alloc (blk_new1 _ _) _))
    have R0 := Lib.hid (blk_keep hb1 (blk_new2 _ _ _))
    have x0 := blk_at X0.out (j := 0) rfl; have x1 := blk_at X0.out (j := 1) rfl
    have r0 := blk_at R0.out (j := 0) rfl; have r1 := blk_at R0.out (j := 1) rfl; have rf := blk_free R0.out
    have b1 := below_then (below_then (below_box w _) (below_box _ _)) hb1
    clear hb1
    go_wp2_with (go_at_call 58; refine (impl_in _ _ _ _).mono ?_; rintro e w' ⟨rfl, rfl⟩)
    refine bodyPost_ret (v := .tuple #[.agg #[.int .i64 (q - n), .int .i64 (v - v * n / q)], .int .i64 (v * n / q), .bool true]) (by simp [results, Try.results38, go_sem, r0, r1]) rfl ⟨by rw [takeRes_yes (by simp [takeOk, h1, h2])]; rfl, ?_⟩
    exact (b1.setCell (Nat.le_succ _) _).setCell (Nat.le_succ _) _
  all_goals
    have hno : takeOk q v n = false := by simp [takeOk, *]
    have HNO := Lib.hid hno; clear hno
    go_enter Try.func38, Try.ntmps38
    go_wp2_with fail
    refine (implIsPool _ _ _).mono ?_; rw [h1]; rintro e w1 ⟨rfl, hb1⟩
    have X0 := Lib.hid (blk_keep hb1 (blk_alloc (blk_new1 _ _) _))
    have x0 := blk_at X0.out (j := 0) rfl
    have R0 := Lib.hid (blk_keep hb1 (blk_new2 _ _ _))
    have r0 := blk_at R0.out (j := 0) rfl; have r1 := blk_at R0.out (j := 1) rfl; have rf := blk_free R0.out
    have b1 := below_then (below_then (below_box w _) (below_box _ _)) hb1
    clear hb1
    go_wp2_with (go_at_call 58; refine (impl_in _ _ _ _).mono ?_; rintro e w' ⟨rfl, rfl⟩)
    refine bodyPost_ret (v := .tuple #[.agg #[.int .i64 0, .int .i64 0], .int .i64 0, .bool false]) (by simp [results, Try.results38, go_sem, r0, r1]) rfl ⟨by rw [takeRes_no HNO.out], ?_⟩
    exact (b1.setCell (Nat.le_succ _) _).setCell (Nat.le_succ _) _
set_option maxHeartbeats 1000000 in
theorem specTakeFromPool (q v n : Int) (w : World) : Calls Try.prog 39 #[.agg #[.int .i64 q, .int .i64 v], .int .i64 n] w fun e w' => e = .returned (takeRes q v n) ∧ Below w.heap.size w w' := by
  have ways : (isPool q v = false) ∨ (isPool q v = true ∧ inB n 1 q = false) ∨ (isPool q v = true ∧ inB n 1 q = true) := by
    cases isPool q v <;> cases inB n 1 q <;> simp
  rcases ways with h1 | ⟨h1, h2⟩ | ⟨h1, h2⟩
  case inr.inr =>
    have p1 := isPool_true h1; have p2 := inB_true.1 h2
    have m1 := mul_bd (a := v) (b := n) (M := 1000000000) (N := 1000000000) (by omega) (by omega) (by omega) (by omega)
    have m2 : 0 ≤ v * n := Int.mul_nonneg (by omega) (by omega)
    obtain ⟨m3, m4⟩ := share_bd (q := q) (v := v) (n := n) (by omega) (by omega) (by omega) (by omega)
    go_enter Try.func39, Try.ntmps39
    go_wp2_with fail
    refine (specIsPool _ _ _).mono ?_; rw [h1]; rintro e w1 ⟨rfl, hb1⟩
    have X0 := Lib.hid (blk_keep hb1 (blk_alloc (blk_new1 _ _) _))
    have R0 := Lib.hid (blk_keep hb1 (blk_new2 _ _ _))
    have x0 := blk_at X0.out (j := 0) rfl; have x1 := blk_at X0.out (j := 1) rfl
    have r0 := blk_at R0.out (j := 0) rfl; have r1 := blk_at R0.out (j := 1) rfl; have rf := blk_free R0.out
    have b1 := below_then (below_then (below_box w _) (below_box _ _)) hb1
    clear hb1
    go_wp2_with (go_at_call 57; refine (spec_in _ _ _ _).mono ?_; rintro e w' ⟨rfl, rfl⟩)
    refine bodyPost_ret (v := .tuple #[.agg #[.int .i64 (q - n), .int .i64 (v - v * n / q)], .int .i64 (v * n / q), .bool true]) (by simp [results, Try.results39, go_sem, r0, r1]) rfl ⟨by rw [takeRes_yes (by simp [takeOk, h1, h2])]; rfl, ?_⟩
    exact (b1.setCell (Nat.le_succ _) _).setCell (Nat.le_succ _) _
  all_goals
    have hno : takeOk q v n = false := by simp [takeOk, *]
    have HNO := Lib.hid hno; clear hno
    go_enter Try.func39, Try.ntmps39
    go_wp2_with fail
    refine (specIsPool _ _ _).mono ?_; rw [h1]; rintro e w1 ⟨rfl, hb1⟩
    have X0 := Lib.hid (blk_keep hb1 (blk_alloc (blk_new1 _ _) _))
    have x0 := blk_at X0.out (j := 0) rfl
    have R0 := Lib.hid (blk_keep hb1 (blk_new2 _ _ _))
    have r0 := blk_at R0.out (j := 0) rfl; have r1 := blk_at R0.out (j := 1) rfl; have rf := blk_free R0.out
    have b1 := below_then (below_then (below_box w _) (below_box _ _)) hb1
    clear hb1
    go_wp2_with (go_at_call 57; refine (spec_in _ _ _ _).mono ?_; rintro e w' ⟨rfl, rfl⟩)
    refine bodyPost_ret (v := .tuple #[.agg #[.int .i64 0, .int .i64 0], .int .i64 0, .bool false]) (by simp [results, Try.results39, go_sem, r0, r1]) rfl ⟨by rw [takeRes_no HNO.out], ?_⟩
    exact (b1.setCell (Nat.le_succ _) _).setCell (Nat.le_succ _) _
end Go.Proofs.Ytijnkofnpoapnaa
