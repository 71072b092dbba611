/- Pools and variances: the walks of the program's and the reference's functions. No condition. -/
import Derived.Test.YtijnkofnpoapnaaIn
import Derived.Test.YtijnkofnpoapnaaOpen
import Derived.Lib.SmallJoins
namespace Go.Proofs.Ytijnkofnpoapnaa
open Go.ChangeShapes Go.WideShapes Go.ChangeAt Go.RowKit

def areActuals (q p : Int) : Bool := inB q 0 100000 && inB p 0 10000
def isPool (q v : Int) : Bool := inB q 0 1000000000 && (inB v 0 1000000000 && (decide (0 < q) || v == 0))
theorem isPool_true {q v : Int} (h : isPool q v = true) : 0 ≤ q ∧ q ≤ 1000000000 ∧ 0 ≤ v ∧ v ≤ 1000000000 ∧ (0 < q ∨ v = 0) := by
  simp only [isPool, inB, Bool.and_eq_true, Bool.or_eq_true, decide_eq_true_eq, beq_iff_eq] at h
  omega

theorem implAreActuals (q p : Int) (w : World) : Calls Try.prog 34 #[.int .i64 q, .int .i64 p] w fun e w' => e = .returned (.bool (areActuals q p)) ∧ Below w.heap.size w w' := by
  cases h1 : inB q 0 100000 <;>
  · go_enter Try.func34, Try.ntmps34
    go_wp2_with (go_at_call 58; refine (impl_in _ _ _ _).mono ?_; rintro e w' ⟨rfl, rfl⟩)
    all_goals (go_ret; exact ⟨ret_bool (by simp [areActuals, h1]), by go_grown⟩)
theorem implIsPool (q v : Int) (w : World) : Calls Try.prog 55 #[.agg #[.int .i64 q, .int .i64 v]] w fun e w' => e = .returned (.bool (isPool q v)) ∧ Below w.heap.size w w' := by
  cases h1 : inB q 0 1000000000 <;> cases h2 : inB v 0 1000000000 <;> by_cases h3 : 0 < q <;>
  · go_enter Try.func55, Try.ntmps55
    go_wp2_with (go_at_call 58; refine (impl_in _ _ _ _).mono ?_; rintro e w' ⟨rfl, rfl⟩)
    all_goals (go_ret; exact ⟨ret_bool (by simp [isPool, h1, h2, h3]), by go_grown⟩)
theorem specAreActuals (q p : Int) (w : World) : Calls Try.prog 33 #[.int .i64 q, .int .i64 p] w fun e w' => e = .returned (.bool (areActuals q p)) ∧ Below w.heap.size w w' := by
  cases h1 : inB q 0 100000 <;>
  · go_enter Try.func33, Try.ntmps33
    go_wp2_with (go_at_call 57; refine (spec_in _ _ _ _).mono ?_; rintro e w' ⟨rfl, rfl⟩)
    all_goals (go_ret; exact ⟨ret_bool (by simp [areActuals, h1]), by go_grown⟩)
theorem specIsPool (q v : Int) (w : World) : Calls Try.prog 36 #[.agg #[.int .i64 q, .int .i64 v]] w fun e w' => e = .returned (.bool (isPool q v)) ∧ Below w.heap.size w w' := by
  cases h1 : inB q 0 1000000000 <;> cases h2 : inB v 0 1000000000 <;> by_cases h3 : 0 < q <;>
  · go_enter Try.func36, Try.ntmps36
    go_wp2_with (go_at_call 57; refine (spec_in _ _ _ _).mono ?_; rintro e w' ⟨rfl, rfl⟩)
    all_goals (go_ret; exact ⟨ret_bool (by simp [isPool, h1, h2, h3]), by go_grown⟩)
theorem toPool_any (q v : Int) (w : World) : Calls Try.prog 12 #[.agg #[.int .i64 q, .int .i64 v]] w fun e w' => e = .returned (.agg #[.int .i64 q, .int .i64 v]) ∧ Below w.heap.size w w' := by
  go_enter Try.func12, Try.ntmps12
  go_wp2
  go_returns
  exact ⟨rfl, by go_grown⟩
theorem eqPool_any (q v q' v' : Int) (w : World) : Calls Try.prog 60 #[.agg #[.int .i64 q, .int .i64 v], .agg #[.int .i64 q', .int .i64 v']] w fun e w' => e = .returned (.bool (decide (q = q' ∧ v = v'))) ∧ Below w.heap.size w w' := by
  go_enter Try.func60, Try.ntmps60
  go_wp2
  all_goals (go_ret; refine ⟨ret_bool ?_, by go_grown⟩; simp_all)
/-! ### the variances -/
def priceVar (q p s : Int) : Int := if areActuals q p && areActuals q s then q * (p - s) else 0
def usageVar (q p s : Int) : Int := if areActuals q s && areActuals p s then (q - p) * s else 0
theorem areActuals_true {q p : Int} (h : areActuals q p = true) : 0 ≤ q ∧ q ≤ 100000 ∧ 0 ≤ p ∧ p ≤ 10000 := by
  simp only [areActuals, inB, Bool.and_eq_true, decide_eq_true_eq] at h; omega
theorem mul_bd {a b M N : Int} (ha : -M ≤ a ∧ a ≤ M) (hb : -N ≤ b ∧ b ≤ N) (hM : 0 ≤ M) (hN : 0 ≤ N) : -(M * N) ≤ a * b ∧ a * b ≤ M * N := by
  have h1 : (a * b).natAbs ≤ (M * N).natAbs := by
    rw [Int.natAbs_mul, Int.natAbs_mul]
    exact Nat.mul_le_mul (by omega) (by omega)
  have h2 : 0 ≤ M * N := Int.mul_nonneg hM hN
  omega
theorem implPriceVar (q p s : Int) (w : World) : Calls Try.prog 31 #[.int .i64 q, .int .i64 p, .int .i64 s] w fun e w' => e = .returned (.int .i64 (priceVar q p s)) ∧ Below w.heap.size w w' := by
  cases h1 : areActuals q p
  · go_enter Try.func31, Try.ntmps31
    go_wp2_with (go_at_call 34; refine (implAreActuals _ _ _).mono ?_; rw [h1]; rintro e w1 ⟨rfl, hb1⟩)
    go_ret
    exact ⟨ret_int (by simp [priceVar, h1]), hb1⟩
  · cases h2 : areActuals q s
    · go_enter Try.func31, Try.ntmps31
      go_wp2_with fail
      refine (implAreActuals _ _ _).mono ?_; rw [h1]; rintro e w1 ⟨rfl, hb1⟩
      go_wp2_with fail
      refine (implAreActuals _ _ _).mono ?_; rw [h2]; rintro e w2 ⟨rfl, hb2⟩
      go_wp2_with fail
      go_ret
      exact ⟨ret_int (by simp [priceVar, h2]), below_then hb1 hb2⟩
    · have a1 := areActuals_true h1; have a2 := areActuals_true h2
      have m1 := mul_bd (a := q) (b := p - s) (M := 100000) (N := 10000) (by omega) (by omega) (by omega) (by omega)
      go_enter Try.func31, Try.ntmps31
      go_wp2_with fail
      refine (implAreActuals _ _ _).mono ?_; rw [h1]; rintro e w1 ⟨rfl, hb1⟩
      go_wp2_with fail
      refine (implAreActuals _ _ _).mono ?_; rw [h2]; rintro e w2 ⟨rfl, hb2⟩
      go_wp2_with fail
      go_ret
      exact ⟨ret_int (by simp [priceVar, h1, h2]), below_then hb1 hb2⟩
theorem implUsageVar (q p s : Int) (w : World) : Calls Try.prog 32 #[.int .i64 q, .int .i64 p, .int .i64 s] w fun e w' => e = .returned (.int .i64 (usageVar q p s)) ∧ Below w.heap.size w w' := by
  cases h1 : areActuals q s
  · go_enter Try.func32, Try.ntmps32
    go_wp2_with (go_at_call 34; refine (implAreActuals _ _ _).mono ?_; rw [h1]; rintro e w1 ⟨rfl, hb1⟩)
    go_ret
    exact ⟨ret_int (by simp [usageVar, h1]), hb1⟩
  · cases h2 : areActuals p s
    · go_enter Try.func32, Try.ntmps32
      go_wp2_with fail
      refine (implAreActuals _ _ _).mono ?_; rw [h1]; rintro e w1 ⟨rfl, hb1⟩
      go_wp2_with fail
      refine (implAreActuals _ _ _).mono ?_; rw [h2]; rintro e w2 ⟨rfl, hb2⟩
      go_wp2_with fail
      go_ret
      exact ⟨ret_int (by simp [usageVar, h2]), below_then hb1 hb2⟩
    · have a1 := areActuals_true h1; have a2 := areActuals_true h2
      have m1 := mul_bd (a := q - p) (b := s) (M := 100000) (N := 10000) (by omega) (by omega) (by omega) (by omega)
      go_enter Try.func32, Try.ntmps32
      go_wp2_with fail
      refine (implAreActuals _ _ _).mono ?_; rw [h1]; rintro e w1 ⟨rfl, hb1⟩
      go_wp2_with fail
      refine (implAreActuals _ _ _).mono ?_; rw [h2]; rintro e w2 ⟨rfl, hb2⟩
      go_wp2_with fail
      go_ret
      exact ⟨ret_int (by simp [usageVar, h1, h2]), below_then hb1 hb2⟩

/-! ### a pool that comes in -/
set_option maxRecDepth 100000 in
theorem open_pool {H : Type} {enc : TypeId × Value → H} {w : World} {base : Nat} {spare : Nat → Bool} {held : Bool} {r : Reach} {b0 : Nat} {v : Value} {d : DataW H} {p : List MemPlace}
    (hv : Value.okWide Try.prog w r b0 23 v) (h : DataW.Trod enc Try.prog w base spare held 23 v d p) :
    ∃ q x : Int, v = .agg #[.int .i64 q, .int .i64 x] ∧ i64 q ∧ i64 x := by
  obtain ⟨c0, c1, y0, y1, m, rfl, _, _, hy0, hy1⟩ := Joins.open_agg2 Try.underlying23 (by kernel_rfl) (by kernel_rfl : Try.prog.cellsOf 23 = 2) hv h
  obtain ⟨a0, e0, _, w0⟩ := DataW.trod_int Try.underlying3 hy0
  obtain ⟨a1, e1, _, w1⟩ := DataW.trod_int Try.underlying3 hy1
  simp only [List.cons.injEq, and_true] at e0 e1
  subst e0 e1
  exact ⟨a0, a1, rfl, i64_of w0, i64_of w1⟩
end Go.Proofs.Ytijnkofnpoapnaa
