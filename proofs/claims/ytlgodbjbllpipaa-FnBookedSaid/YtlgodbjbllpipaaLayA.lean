/- The walks of AreLayers (the program's and the reference's). -/
import Derived.Test.YtlgodbjbllpipaaLay
import Derived.Test.YtlgodbjbllpipaaIn
namespace Go.Proofs.Ytlgodbjbllpipaa
open Go.ChangeShapes Go.WideShapes Go.ChangeAt Go.RowKit

/-- The ways through the test of a layer. -/
theorem lay_ways (q v u : Int) (k : Nat) : (inB q 1 100000 = false) ∨ (inB q 1 100000 = true ∧ inB v 0 1000000000 = false) ∨ (inB q 1 100000 = true ∧ inB v 0 1000000000 = true ∧ inB u 0 q = false) ∨
    (inB q 1 100000 = true ∧ inB v 0 1000000000 = true ∧ inB u 0 q = true ∧ decide ((0 : Int) < k) = false ∧ ¬ (0 < k)) ∨ (inB q 1 100000 = true ∧ inB v 0 1000000000 = true ∧ inB u 0 q = true ∧ 0 < k ∧ decide (0 < u) = false) ∨
    (inB q 1 100000 = true ∧ inB v 0 1000000000 = true ∧ inB u 0 q = true ∧ 0 < k ∧ 0 < u) := by
  cases inB q 1 100000 <;> cases inB v 0 1000000000 <;> cases inB u 0 q <;> simp <;> omega

set_option maxHeartbeats 2000000 in
theorem implAreLayers (A : Option Addr) (n c : Nat) (l : List Lay) (w : World) (hr : RS w 3 A n (layCells l)) (hn : n ≤ 1000000000) :
    Calls Try.prog 46 #[.slice A n c] w fun e w' => e = .returned (.bool (areLayers l)) ∧ Below w.heap.size w w' := by
  have hl := Lib.hid hr.lay
  go_enter Try.func46, Try.ntmps46
  go_wp2
  go_loopw [7] (fun i wr => ∃ k : Nat, k ≤ n ∧ i = .int .i64 k ∧ Hid (∀ j, j < k → layBad l j = false) ∧ Below w.heap.size w wr) (fun i _ => n - (intOf i).toNat)
  case atStart => exact ⟨0, Nat.zero_le _, rfl, fun _ h => absurd h (Nat.not_lt_zero _), Below.refl _ _⟩
  case round =>
    obtain ⟨k, hk, rfl, hgood, hb⟩ := hrel
    have hsz := hb.size
    by_cases hlt : k < n
    · obtain ⟨g, off, rfl, q, v, u, hx, hq, hv, hu⟩ := (hr.below hb).layAt hlt
      have HX := Lib.hid hx; clear hx
      have step : layBad l k = false → ∀ j, j < k + 1 → layBad l j = false := fun h j hj => by
        rcases Nat.lt_succ_iff_lt_or_eq.1 hj with h' | rfl
        · exact hgood.out j h'
        · exact h
      have ST := Lib.hid step; clear step hgood
      have bad : layBad l k = true → areLayers l = false := fun h => areLayers_bad (by rw [hl.out]; exact hlt) h
      have BAD := Lib.hid bad; clear bad
      rcases lay_ways q v u k with h1 | ⟨h1, h2⟩ | ⟨h1, h2, h3⟩ | ⟨h1, h2, h3, h4, h4'⟩ | ⟨h1, h2, h3, h4, h5⟩ | ⟨h1, h2, h3, h4, h5⟩
      case inr.inr.inr.inr.inr =>
        obtain ⟨g', off', hA, q', v', u', hx', hq', hv', hu'⟩ := (hr.below hb).layAt (k := k - 1) (by omega)
        obtain ⟨rfl, rfl⟩ : g' = g ∧ off' = off := by simpa using hA.symm
        have HB := Lib.hid (layBad_prev HX.out hx' h1 h2 h3 h4 h5)
        have s1 : IntKind.i64.wrap ((k : Int) - 1) = (k : Int) - 1 := IntWalk.i64_in _ (by omega)
        have s2 : 0 ≤ (k : Int) - 1 := by omega
        have s3 : ((k : Int) - 1).toNat = k - 1 := by omega
        have s4 : (k : Int) - 1 < n := by omega
        have c1 := cell_alloc hq'; have c2 := cell_alloc hu'
        clear hA hx'
        go_wp2
        go_quiet ((go_at_call 47; exact quiet_left (impl_in _ _ _ _)))
        clear s1 s3
        go_wp2
        · have hd : u' < q' := by assumption
          go_ret
          exact ⟨ret_bool (BAD.out (by rw [HB.out]; simpa using hd)).symm, below_drewN (hb.alloc hsz _) _⟩
        · have hd : q' ≤ u' := by omega
          go_roundw
          case rel => exact ⟨k + 1, by omega, by go_num, ST.out (by rw [HB.out]; simp; omega), below_drewN (hb.alloc hsz _) _⟩
          case measure => simp [intOf]; omega
      case inr.inr.inr.inl | inr.inr.inr.inr.inl =>
        all_goals
          go_wp2
          go_quiet ((go_at_call 47; exact quiet_left (impl_in _ _ _ _)))
          go_wp2
          go_roundw
          case rel => exact ⟨k + 1, by omega, by go_num, ST.out (layBad_first HX.out h1 h2 h3 (by first | exact .inl h4' | exact .inr h5)), below_drewN (hb.alloc hsz _) _⟩
          case measure => simp [intOf]; omega
      all_goals
        go_wp2
        go_quiet ((go_at_call 47; exact quiet_left (impl_in _ _ _ _)))
        go_wp2
        go_ret
        exact ⟨ret_bool (BAD.out (by rw [layBad_eq HX.out]; simp [*])).symm, below_drewN (hb.alloc hsz _) _⟩
    · go_wp2
      have : k = n := by omega
      subst this
      go_ret
      exact ⟨ret_bool (by rw [areLayers_good (by rw [hl.out]; exact hgood.out), hl.out]), hb⟩

set_option maxHeartbeats 2000000 in
theorem specAreLayers (A : Option Addr) (n c : Nat) (l : List Lay) (w : World) (hr : RS w 3 A n (layCells l)) (hn : n ≤ 1000000000) :
    Calls Try.prog 42 #[.slice A n c] w fun e w' => e = .returned (.bool (areLayers l)) ∧ Below w.heap.size w w' := by
  have hl := Lib.hid hr.lay
  go_enter Try.func42, Try.ntmps42
  go_wp2
  go_loopw [3] (fun i wr => ∃ k : Nat, k ≤ n ∧ i = .int .i64 k ∧ Hid (∀ j, j < k → layBad l j = false) ∧ Below w.heap.size w wr) (fun i _ => n - (intOf i).toNat)
  case atStart => exact ⟨0, Nat.zero_le _, rfl, fun _ h => absurd h (Nat.not_lt_zero _), Below.refl _ _⟩
  case round =>
    obtain ⟨k, hk, rfl, hgood, hb⟩ := hrel
    have hsz := hb.size
    by_cases hlt : k < n
    · obtain ⟨g, off, rfl, q, v, u, hx, hq, hv, hu⟩ := (hr.below hb).layAt hlt
      have HX := Lib.hid hx; clear hx
      have step : layBad l k = false → ∀ j, j < k + 1 → layBad l j = false := fun h j hj => by
        rcases Nat.lt_succ_iff_lt_or_eq.1 hj with h' | rfl
        · exact hgood.out j h'
        · exact h
      have ST := Lib.hid step; clear step hgood
      have bad : layBad l k = true → areLayers l = false := fun h => areLayers_bad (by rw [hl.out]; exact hlt) h
      have BAD := Lib.hid bad; clear bad
      have i1 : (0 : Int) ≤ k := by omega
      have i2 : (k : Int) < n := by omega
      rcases lay_ways q v u k with h1 | ⟨h1, h2⟩ | ⟨h1, h2, h3⟩ | ⟨h1, h2, h3, h4, h4'⟩ | ⟨h1, h2, h3, h4, h5⟩ | ⟨h1, h2, h3, h4, h5⟩
      case inr.inr.inr.inr.inr =>
        obtain ⟨g', off', hA, q', v', u', hx', hq', hv', hu'⟩ := (hr.below hb).layAt (k := k - 1) (by omega)
        obtain ⟨rfl, rfl⟩ : g' = g ∧ off' = off := by simpa using hA.symm
        have HB := Lib.hid (layBad_prev HX.out hx' h1 h2 h3 h4 h5)
        have s1 : IntKind.i64.wrap ((k : Int) - 1) = (k : Int) - 1 := IntWalk.i64_in _ (by omega)
        have s2 : 0 ≤ (k : Int) - 1 := by omega
        have s3 : ((k : Int) - 1).toNat = k - 1 := by omega
        have s4 : (k : Int) - 1 < n := by omega
        clear hA hx'
        go_wp2
        go_quiet ((go_at_call 43; exact quiet_left (spec_in _ _ _ _)))
        clear s1 s3
        go_wp2
        · have hd : u' < q' := by assumption
          go_ret
          exact ⟨ret_bool (BAD.out (by rw [HB.out]; simpa using hd)).symm, below_drewN hb _⟩
        · have hd : q' ≤ u' := by omega
          go_roundw
          case rel => exact ⟨k + 1, by omega, by go_num, ST.out (by rw [HB.out]; simp; omega), below_drewN hb _⟩
          case measure => simp [intOf]; omega
      case inr.inr.inr.inl | inr.inr.inr.inr.inl =>
        all_goals
          go_wp2
          go_quiet ((go_at_call 43; exact quiet_left (spec_in _ _ _ _)))
          go_wp2
          go_roundw
          case rel => exact ⟨k + 1, by omega, by go_num, ST.out (layBad_first HX.out h1 h2 h3 (by first | exact .inl h4' | exact .inr h5)), below_drewN hb _⟩
          case measure => simp [intOf]; omega
      all_goals
        go_wp2
        go_quiet ((go_at_call 43; exact quiet_left (spec_in _ _ _ _)))
        go_wp2
        go_ret
        exact ⟨ret_bool (BAD.out (by rw [layBad_eq HX.out]; simp [*])).symm, below_drewN hb _⟩
    · go_wp2
      have : k = n := by omega
      subst this
      go_ret
      exact ⟨ret_bool (by rw [areLayers_good (by rw [hl.out]; exact hgood.out), hl.out]), hb⟩
end Go.Proofs.Ytlgodbjbllpipaa
