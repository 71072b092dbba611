/- The walks of the drawn cases on pools. -/
import Derived.Test.YtijnkofnpoapnaaDrawPool
namespace Go.Proofs.Ytijnkofnpoapnaa
open Go.ChangeShapes Go.WideShapes Go.ChangeAt Go.RowKit

set_option maxHeartbeats 1000000 in
theorem DrawTakeFromPool_any (A : Option Addr) (n c : Nat) (bs : List Int) (w : World) (hr : RS w 1 A n (byteCells bs)) (hbs : ∀ b ∈ bs, 0 ≤ b ∧ b < 256) (hn : n ≤ 1048576) :
    Calls Try.prog 37 #[.slice A n c] w fun e w' => ∃ a b q : Int, e = .returned (.tuple #[.agg #[.int .i64 a, .int .i64 b], .int .i64 q]) ∧ i64 a ∧ i64 b ∧ i64 q ∧ Below w.heap.size w w' := by
  go_enter Try.func37, Try.ntmps37
  go_wp2_with fail
  refine (l1New_any _ _ _ _ _ (hr.alloc _) hbs (by omega)).mono ?_; rintro e w1 ⟨g, rfl, hg1, hb1, hc1⟩
  have HR := Lib.hid (blk_keep hb1 (blk_new1 w _))
  have hR : w.heap.size < g := by rw [World.size_alloc] at hg1; omega
  have b1 := (below_box w _).trans (hb1.mono (below_box w _).size)
  clear hb1
  go_wp2_with fail
  refine (l32Pool_any g _ hc1).mono ?_; rintro e w2 ⟨a, b, rfl, ha, hb, hg2, hc2⟩
  have HR := Lib.hid (blk_grown hg2 HR.out (by omega))
  have b2 := below_grown b1 hg2 (by omega) b1.size
  clear b1 hg2
  go_wp2_with fail
  refine (l10Quantity_any g _ hc2).mono ?_; rintro e w3 ⟨q, rfl, hq, hg3, hc3⟩
  have HR := Lib.hid (blk_grown hg3 HR.out (by omega))
  have b3 := below_grown b2 hg3 (by omega) b2.size
  have r0 := blk_at HR.out (j := 0) rfl; have r1 := blk_at HR.out (j := 1) rfl; have rf := blk_free HR.out
  clear b2 hg3
  go_wp2_with fail
  refine bodyPost_ret (v := .tuple #[.agg #[.int .i64 a, .int .i64 b], .int .i64 q]) (by simp [results, Try.results37, go_sem, r0, r1]) rfl ⟨a, b, q, rfl, ha, hb, hq, ?_⟩
  exact (b3.setCell (Nat.le_refl _) _).setCell (Nat.le_refl _) _
end Go.Proofs.Ytijnkofnpoapnaa
