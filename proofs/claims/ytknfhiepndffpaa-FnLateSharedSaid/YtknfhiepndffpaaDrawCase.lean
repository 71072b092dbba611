/- The walks of the drawn cases on layers, and of the laws' equality of layers. -/
import Derived.Test.YtknfhiepndffpaaDrawLay
import Derived.Test.YtknfhiepndffpaaDrawOpen
namespace Go.Proofs.Ytknfhiepndffpaa
open Go.ChangeShapes Go.WideShapes Go.ChangeAt Go.RowKit

/-- Layers drawn, and a number beside them. -/
def DrawnOne (w : World) (e : Ending) (w' : World) : Prop :=
  ∃ (A : Option Addr) (n c : Nat) (l : List Lay) (q : Int), e = .returned (.tuple #[.slice A n c, .int .i64 q]) ∧ RS w' 3 A n (layCells l) ∧ n ≤ 24 ∧ (∀ x ∈ l, layI64 x) ∧ i64 q ∧ Below w.heap.size w w'
def DrawnTwo (w : World) (e : Ending) (w' : World) : Prop :=
  ∃ (A : Option Addr) (n c : Nat) (l : List Lay) (k q : Int), e = .returned (.tuple #[.slice A n c, .int .i64 k, .int .i64 q]) ∧ RS w' 3 A n (layCells l) ∧ n ≤ 24 ∧ (∀ x ∈ l, layI64 x) ∧ i64 k ∧ i64 q ∧ Below w.heap.size w w'
theorem below_cur {a w w' : World} {g : Nat} (hb : Below a.heap.size a w) (hg : a.heap.size ≤ g) (h : w.grownBy w' (some g)) : Below a.heap.size a w' := below_grown hb h hg hb.size

set_option maxHeartbeats 1000000 in
theorem DrawIssueLayers_any (A : Option Addr) (n c : Nat) (bs : List Int) (w : World) (hr : RS w 1 A n (byteCells bs)) (hbs : ∀ b ∈ bs, 0 ≤ b ∧ b < 256) (hn : n ≤ 1048576) :
    Calls Try.prog 43 #[.slice A n c] w (DrawnOne w) := by
  go_enter Try.func43, Try.ntmps43
  go_wp2_with fail
  refine (l1New_any _ _ _ _ _ hr hbs hn).mono ?_; rintro e w1 ⟨g, rfl, hg1, hb1, hc1⟩
  go_wp2_with fail
  refine (l31Layers_any g _ hc1).mono ?_; rintro e w2 ⟨A2, n2, c2, l, rfl, ho2, hn2, hl2, hg2, hc2⟩
  have b2 := below_cur hb1 hg1 hg2
  go_wp2_with fail
  refine (l10Quantity_any g _ hc2).mono ?_; rintro e w3 ⟨q, rfl, hq, hg3, hc3⟩
  have b3 := below_cur b2 hg1 hg3
  have ho3 := row_grown ho2 hg3 (cur_apart ho2 (by have := hc1.lt; omega))
  go_wp2_with fail
  go_ret2
  exact ⟨_, _, _, l, q, rfl, RS.of_own ho3, hn2, hl2, hq, b3⟩
set_option maxHeartbeats 1000000 in
theorem DrawShareLate_any (A : Option Addr) (n c : Nat) (bs : List Int) (w : World) (hr : RS w 1 A n (byteCells bs)) (hbs : ∀ b ∈ bs, 0 ≤ b ∧ b < 256) (hn : n ≤ 1048576) :
    Calls Try.prog 46 #[.slice A n c] w (DrawnOne w) := by
  go_enter Try.func46, Try.ntmps46
  go_wp2_with fail
  refine (l1New_any _ _ _ _ _ hr hbs hn).mono ?_; rintro e w1 ⟨g, rfl, hg1, hb1, hc1⟩
  go_wp2_with fail
  refine (l31Layers_any g _ hc1).mono ?_; rintro e w2 ⟨A2, n2, c2, l, rfl, ho2, hn2, hl2, hg2, hc2⟩
  have b2 := below_cur hb1 hg1 hg2
  go_wp2_with fail
  refine (l33Amount_any g _ hc2).mono ?_; rintro e w3 ⟨q, rfl, hq, hg3, hc3⟩
  have b3 := below_cur b2 hg1 hg3
  have ho3 := row_grown ho2 hg3 (cur_apart ho2 (by have := hc1.lt; omega))
  go_wp2_with fail
  go_ret2
  exact ⟨_, _, _, l, q, rfl, RS.of_own ho3, hn2, hl2, hq, b3⟩
set_option maxHeartbeats 1000000 in
theorem DrawAddLate_any (A : Option Addr) (n c : Nat) (bs : List Int) (w : World) (hr : RS w 1 A n (byteCells bs)) (hbs : ∀ b ∈ bs, 0 ≤ b ∧ b < 256) (hn : n ≤ 1048576) :
    Calls Try.prog 18 #[.slice A n c] w (DrawnTwo w) := by
  go_enter Try.func18, Try.ntmps18
  go_wp2_with fail
  refine (l1New_any _ _ _ _ _ hr hbs hn).mono ?_; rintro e w1 ⟨g, rfl, hg1, hb1, hc1⟩
  go_wp2_with fail
  refine (l31Layers_any g _ hc1).mono ?_; rintro e w2 ⟨A2, n2, c2, l, rfl, ho2, hn2, hl2, hg2, hc2⟩
  have b2 := below_cur hb1 hg1 hg2
  have hgl := hc1.lt
  go_wp2_with fail
  refine (l1Below_any g _ _ hc2 (by omega)).mono ?_; rintro e w3 ⟨k, rfl, hk0, hk1, -, hg3, hc3⟩
  have b3 := below_cur b2 hg1 hg3
  have ho3 := row_grown ho2 hg3 (cur_apart ho2 hgl)
  go_wp2_with fail
  refine (l33Amount_any g _ hc3).mono ?_; rintro e w4 ⟨q, rfl, hq, hg4, hc4⟩
  have b4 := below_cur b3 hg1 hg4
  have ho4 := row_grown ho3 hg4 (cur_apart ho3 hgl)
  go_wp2_with fail
  go_ret3
  exact ⟨_, _, _, l, k - 1, q, rfl, RS.of_own ho4, hn2, hl2, ⟨by omega, by omega⟩, hq, b4⟩

set_option maxHeartbeats 1000000 in
theorem sameLayers_any (A : Option Addr) (n c : Nat) (l : List Lay) (A' : Option Addr) (n' c' : Nat) (l' : List Lay) (w : World) (hr : RS w 3 A n (layCells l)) (hr' : RS w 3 A' n' (layCells l')) (hn : n ≤ 9223372036854775807) (hn' : n' ≤ 9223372036854775807) (heq : l = l') :
    Calls Try.prog 25 #[.slice A n c, .slice A' n' c'] w fun e w' => e = .returned (.bool true) ∧ Below w.heap.size w w' := by
  have hl := hr.lay
  have hl' := hr'.lay
  obtain rfl : n = n' := by rw [← hl, ← hl', heq]
  have HE := Lib.hid heq; clear heq hl hl'
  go_enter Try.func25, Try.ntmps25
  go_wp2
  go_loopw [5] (fun i wr => ∃ k : Nat, k ≤ n ∧ i = .int .i64 k ∧ Below w.heap.size w wr) (fun i _ => n - (intOf i).toNat)
  case atStart => exact ⟨0, Nat.zero_le _, rfl, Below.refl _ _⟩
  case round =>
    obtain ⟨k, hk, rfl, hb⟩ := hrel
    by_cases hlt : k < n
    · obtain ⟨g, off, rfl, q, v, u, hx, hq, hv, hu⟩ := (hr.below hb).layAt hlt
      obtain ⟨g', off', rfl, q', v', u', hx', hq', hv', hu'⟩ := (hr'.below hb).layAt hlt
      rw [HE.out, hx'] at hx
      obtain ⟨rfl, rfl, rfl⟩ : q' = q ∧ v' = v ∧ u' = u := by simpa using hx
      clear hx hx'
      have i1 : (0 : Int) ≤ k := by omega
      have i2 : (k : Int) < n := by omega
      go_wp2
      go_quiet (fail)
      go_wp2
      go_roundw
      case rel => exact ⟨k + 1, by omega, by go_num, below_drewN hb _⟩
      case measure => simp [intOf]; omega
    · go_wp2
      have : k = n := by omega
      subst this
      go_ret
      exact ⟨rfl, hb⟩
end Go.Proofs.Ytknfhiepndffpaa
