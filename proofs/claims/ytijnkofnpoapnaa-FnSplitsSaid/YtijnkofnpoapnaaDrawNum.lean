/- The walks of the drawing of numbers: charges, three numbers of a variance. -/
import Derived.Test.YtijnkofnpoapnaaDraw2
namespace Go.Proofs.Ytijnkofnpoapnaa
open Go.ChangeShapes Go.WideShapes Go.ChangeAt Go.RowKit

theorem l16Charge_any (g : Nat) (w : World) (hc : Cur w g) :
    Calls Try.prog 79 #[.pointer (some ⟨g, 0, none⟩)] w fun e w' => ∃ x : Int, e = .returned (.int .i64 x) ∧ i64 x ∧ w.grownBy w' (some g) ∧ Cur w' g := by
  go_enter Try.func79, Try.ntmps79
  go_wp2_with fail
  refine (l1Once_any g _ _ hc (by omega)).mono ?_; rintro e w1 ⟨b, rfl, hg1, hc1⟩
  have hlt := hc1.lt
  cases b
  · go_wp2_with fail
    refine (l1PickInt_any g _ _ _ [0, 1, 2, 10, 100, 500] _ (hc1.below (below_box _ _)) (RS_new (by simp)) (by simp [i64]) (by omega) (by omega) (fun a e => by injection e with e; subst e; show w1.heap.size ≠ g; omega)).mono ?_; rintro e w2 ⟨x, rfl, hx, hg2, hc2⟩
    go_wp2_with fail
    go_ret
    exact ⟨x, rfl, hx, (hg1.trans (World.grownBy_alloc w1 _ _)).trans hg2, hc2⟩
  · go_wp2_with fail
    refine (l1PickInt_any g _ _ _ [-1, 10000, 10001] _ (hc1.below (below_box _ _)) (RS_new (by simp)) (by simp [i64]) (by omega) (by omega) (fun a e => by injection e with e; subst e; show w1.heap.size ≠ g; omega)).mono ?_; rintro e w2 ⟨x, rfl, hx, hg2, hc2⟩
    go_wp2_with fail
    go_ret
    exact ⟨x, rfl, hx, (hg1.trans (World.grownBy_alloc w1 _ _)).trans hg2, hc2⟩
theorem l34Two_any (g : Nat) (w : World) (hc : Cur w g) :
    Calls Try.prog 64 #[.pointer (some ⟨g, 0, none⟩)] w fun e w' => ∃ x y z : Int, e = .returned (.tuple #[.int .i64 x, .int .i64 y, .int .i64 z]) ∧ i64 x ∧ i64 y ∧ i64 z ∧ w.grownBy w' (some g) ∧ Cur w' g := by
  go_enter Try.func64, Try.ntmps64
  go_wp2_with fail
  refine (l1Once_any g _ _ hc (by omega)).mono ?_; rintro e w1 ⟨b, rfl, hg1, hc1⟩
  cases b
  · go_wp2_with fail
    refine (l1Below_any g _ _ hc1 (by omega)).mono ?_; rintro e w2 ⟨x, rfl, hx0, hx1, -, hg2, hc2⟩
    go_wp2_with fail
    refine (l1Below_any g _ _ hc2 (by omega)).mono ?_; rintro e w3 ⟨y, rfl, hy0, hy1, -, hg3, hc3⟩
    go_wp2_with fail
    refine (l1Below_any g _ _ hc3 (by omega)).mono ?_; rintro e w4 ⟨z, rfl, hz0, hz1, -, hg4, hc4⟩
    go_wp2_with fail
    go_ret3
    exact ⟨x, y, z, rfl, ⟨by omega, by omega⟩, ⟨by omega, by omega⟩, ⟨by omega, by omega⟩, ((hg1.trans hg2).trans hg3).trans hg4, hc4⟩
  · go_wp2_with fail
    refine (l10Quantity_any g _ hc1).mono ?_; rintro e w2 ⟨x, rfl, hx, hg2, hc2⟩
    go_wp2_with fail
    refine (l16Charge_any g _ hc2).mono ?_; rintro e w3 ⟨y, rfl, hy, hg3, hc3⟩
    go_wp2_with fail
    refine (l16Charge_any g _ hc3).mono ?_; rintro e w4 ⟨z, rfl, hz, hg4, hc4⟩
    go_wp2_with fail
    go_ret3
    exact ⟨x, y, z, rfl, hx, hy, hz, ((hg1.trans hg2).trans hg3).trans hg4, hc4⟩
theorem DrawPriceVariance_any (A : Option Addr) (n c : Nat) (bs : List Int) (w : World) (hr : RS w 1 A n (byteCells bs)) (hbs : ∀ b ∈ bs, 0 ≤ b ∧ b < 256) (hn : n ≤ 1048580) :
    Calls Try.prog 29 #[.slice A n c] w fun e w' => ∃ x y z : Int, e = .returned (.tuple #[.int .i64 x, .int .i64 y, .int .i64 z]) ∧ i64 x ∧ i64 y ∧ i64 z ∧ Below w.heap.size w w' := by
  go_enter Try.func29, Try.ntmps29
  go_wp2_with fail
  refine (l1New_any _ _ _ _ _ hr hbs (by omega)).mono ?_; rintro e w1 ⟨g, rfl, hg1, hb1, hc1⟩
  go_wp2_with fail
  refine (l34Two_any g _ hc1).mono ?_; rintro e w2 ⟨x, y, z, rfl, hx, hy, hz, hg2, hc2⟩
  go_wp2_with fail
  go_ret3
  exact ⟨x, y, z, rfl, hx, hy, hz, below_grown hb1 hg2 hg1 hb1.size⟩
theorem DrawUsageVariance_any (A : Option Addr) (n c : Nat) (bs : List Int) (w : World) (hr : RS w 1 A n (byteCells bs)) (hbs : ∀ b ∈ bs, 0 ≤ b ∧ b < 256) (hn : n ≤ 1048580) :
    Calls Try.prog 30 #[.slice A n c] w fun e w' => ∃ x y z : Int, e = .returned (.tuple #[.int .i64 x, .int .i64 y, .int .i64 z]) ∧ i64 x ∧ i64 y ∧ i64 z ∧ Below w.heap.size w w' := by
  go_enter Try.func30, Try.ntmps30
  go_wp2_with fail
  refine (l1New_any _ _ _ _ _ hr hbs (by omega)).mono ?_; rintro e w1 ⟨g, rfl, hg1, hb1, hc1⟩
  go_wp2_with fail
  refine (l34Two_any g _ hc1).mono ?_; rintro e w2 ⟨x, y, z, rfl, hx, hy, hz, hg2, hc2⟩
  go_wp2_with fail
  go_ret3
  exact ⟨x, y, z, rfl, hx, hy, hz, below_grown hb1 hg2 hg1 hb1.size⟩
end Go.Proofs.Ytijnkofnpoapnaa
