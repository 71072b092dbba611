/- The walks of the drawing of data: the cursor made, odd numbers. -/
import Derived.Test.YtnhkpdaogclfjaaDraw
namespace Go.Proofs.Ytnhkpdaogclfjaa
open Go.ChangeShapes Go.WideShapes Go.ChangeAt Go.RowKit

set_option maxRecDepth 100000 in
set_option maxHeartbeats 1000000 in
theorem l1New_any (A : Option Addr) (n c : Nat) (bs : List Int) (w : World) (hr : RS w 1 A n (byteCells bs)) (hbs : ∀ b ∈ bs, 0 ≤ b ∧ b < 256) (hn : n ≤ 1048580) :
    Calls Try.prog 54 #[.slice A n c] w fun e w' => ∃ g, e = .returned (.pointer (some ⟨g, 0, none⟩)) ∧ w.heap.size ≤ g ∧ Below w.heap.size w w' ∧ Cur w' g := by
  go_enter Try.func54, Try.ntmps54
  go_wp2
  go_loop [3, 4] (fun hh i => ∃ (k : Nat) (h : Int), k ≤ n ∧ i = .int .i64 k ∧ hh = .int .i64 h) (fun _ i => n - (intOf i).toNat)
  case atStart => exact ⟨0, _, Nat.zero_le _, rfl, rfl⟩
  case round =>
    obtain ⟨k, h, hk, rfl, rfl⟩ := hrel
    by_cases hlt : k < n ∧ k < 4000
    · obtain ⟨hlt, h4⟩ := hlt
      obtain ⟨ga, off, rfl, hcell⟩ := hr.at_ (by omega)
      obtain ⟨b, hb⟩ : ∃ b, bs[k]? = some b := ⟨_, List.getElem?_eq_getElem (by have := hr.len; simp [byteCells] at this; omega)⟩
      have hb1 := hbs b (List.mem_of_getElem? hb)
      have hcb := hcell k (.int .u8 b) (by simp [byteCells, hb])
      clear hcell hb
      go_wp2
      go_round
      case rel => exact ⟨k + 1, _, by omega, by go_num, rfl⟩
      case measure => simp [intOf]; omega
    · by_cases h1 : k < n
      · have h4 : ¬ k < 4000 := fun h => hlt ⟨h1, h⟩
        clear hlt
        go_wp2
        go_ret
        refine ⟨_, rfl, Nat.le_refl _, below_box _ _, A, n, c, 0, h, bs, blk_new1 _ _, hr.alloc _, hbs, Nat.zero_le _, by omega, fun a e h0 => ?_⟩
        obtain ⟨ga, off, e', hcell⟩ := hr.at_ h0
        obtain ⟨u, hu⟩ : ∃ u, (byteCells bs)[0]? = some u := ⟨_, List.getElem?_eq_getElem (by have := hr.len; omega)⟩
        have := World.block_lt_of_cell? w _ (hcell 0 u hu)
        rw [e] at e'
        injection e' with e'
        subst e'
        exact this
      · clear hlt
        go_wp2
        go_ret
        refine ⟨_, rfl, Nat.le_refl _, below_box _ _, A, n, c, 0, h, bs, blk_new1 _ _, hr.alloc _, hbs, Nat.zero_le _, by omega, fun a e h0 => ?_⟩
        obtain ⟨ga, off, e', hcell⟩ := hr.at_ h0
        obtain ⟨u, hu⟩ : ∃ u, (byteCells bs)[0]? = some u := ⟨_, List.getElem?_eq_getElem (by have := hr.len; omega)⟩
        have := World.block_lt_of_cell? w _ (hcell 0 u hu)
        rw [e] at e'
        injection e' with e'
        subst e'
        exact this

theorem l1Odd_any (g : Nat) (w : World) (hc : Cur w g) :
    Calls Try.prog 78 #[.pointer (some ⟨g, 0, none⟩)] w fun e w' => ∃ x : Int, e = .returned (.int .i64 x) ∧ i64 x ∧ w.grownBy w' (some g) ∧ Cur w' g := by
  have hlt := hc.lt
  go_enter Try.func78, Try.ntmps78
  go_wp2_with fail
  refine (l1PickInt_any g _ _ _ [0, 1, -1, 2, 1000000, 1000001, -1000001, 1000000000, 1000000001, 9223372036854775807, -9223372036854775808] _ (hc.below (below_box _ _)) (RS_new (by simp)) (by simp [i64]) (by omega) (by omega) (fun a e => by injection e with e; subst e; show w.heap.size ≠ g; omega)).mono ?_; rintro e w1 ⟨x, rfl, hx, hg1, hc1⟩
  go_wp2_with fail
  go_ret
  exact ⟨x, rfl, hx, (World.grownBy_alloc w _ _).trans hg1, hc1⟩
end Go.Proofs.Ytnhkpdaogclfjaa
