/- The walks of copyLayers, ReceiveLayer and DropLayers. -/
import Derived.Test.YtlgodbjbllpipaaLayA
import Derived.Test.YtlgodbjbllpipaaLayB
import Derived.Test.YtlgodbjbllpipaaLay2
namespace Go.Proofs.Ytlgodbjbllpipaa
open Go.ChangeShapes Go.WideShapes Go.ChangeAt Go.RowKit

theorem copyLayers_any (A : Option Addr) (n c : Nat) (l : List Lay) (w : World) (hr : RS w 3 A n (layCells l)) (hn : n ≤ 1000000000) :
    Calls Try.prog 84 #[.slice A n c] w fun e w' => ∃ A' c', e = .returned (.slice A' n c') ∧ w'.ownsRow w.heap.size 61 3 (.slice A' n c') n (layCells l) ∧ Below w.heap.size w w' := by
  obtain ⟨i0, hi, hz0, hz1, hz2⟩ := info_parts layInfo
  go_enter Try.func84, Try.ntmps84
  go_wp2_with (at_builtin; refine wpList_app _ rfl _ _ _ rfl w.heap.size 61 i0 _ 3 24 Try.underlying57 hi hz0 hz1 hz2 rfl (by omega) _ 0 [] rfl (own_empty w w.heap.size 61 3 (Nat.le_refl _)) A n c (layCells l) rfl (hr.alloc _) (layCells_one l) (by unfold maxLen; omega) (by omega) (by simp) ?_; intro A1 c1 w1 ho1 _ _ hb1)
  go_ret
  simp only [Nat.zero_add, List.nil_append] at ho1 ⊢
  exact ⟨A1, c1, rfl, ho1, (below_box w _).trans hb1⟩

set_option maxHeartbeats 1000000 in
theorem implReceive (A : Option Addr) (n c : Nat) (l : List Lay) (q v : Int) (w : World) (hr : RS w 3 A n (layCells l)) (hn : n ≤ 100000000) :
    Calls Try.prog 114 #[.slice A n c, .int .i64 q, .int .i64 v] w fun e w' => ∃ A' c', e = .returned (.tuple #[.slice A' (recvOut l q v).length c', .bool (areLayers (recvL l q v))]) ∧
      w'.ownsRow w.heap.size 61 3 (.slice A' (recvOut l q v).length c') (recvOut l q v).length (layCells (recvOut l q v)) ∧ Below w.heap.size w w' := by
  obtain ⟨i0, hi, hz0, hz1, hz2⟩ := info_parts layInfo
  have hl := Lib.hid hr.lay
  go_enter Try.func114, Try.ntmps114
  go_wp2_with fail
  refine (copyLayers_any _ _ _ l _ hr (by omega)).mono ?_; rintro e w1 ⟨A1, c1, rfl, ho1, hb1⟩
  go_wp2_with (at_builtin; refine wpList_app _ rfl _ _ _ rfl w.heap.size 61 i0 _ 3 24 Try.underlying57 hi hz0 hz1 hz2 rfl (by omega) _ n (layCells l) rfl (ho1.alloc _) _ 1 1 (layCells [⟨q, v, 0⟩]) rfl (RS_new (by simp)) (layCells_one _) (by unfold maxLen; omega) (by omega) (by have := hb1.size; simp; omega) ?_; intro A2 c2 w2 ho2 _ _ hb2)
  have b2 : Below w.heap.size w w2 := (hb1.alloc hb1.size _).trans hb2
  rw [← layCells_append] at ho2
  have HL : (recvL l q v).length = n + 1 := by rw [recvL, List.length_append, hl.out]; rfl
  have HH := Lib.hid HL; clear HL
  refine (implAreLayers _ _ _ (recvL l q v) _ (RS.of_own ho2) (by omega)).mono ?_; rintro e w3 ⟨rfl, hb3⟩
  have b3 := below_then b2 hb3
  have ho3 := own_below ho2 hb3
  clear ho1 ho2 hb1 hb2 hb3 b2
  cases h : areLayers (recvL l q v)
  · go_wp2_with fail
    go_ret2
    have e : recvOut l q v = [] := by simp [recvOut, h]
    rw [e, h]
    exact ⟨none, 0, rfl, World.ownsRow_nil _ _ _ _, b3⟩
  · go_wp2_with fail
    go_ret2
    have e : recvOut l q v = recvL l q v := by simp [recvOut, h]
    rw [e, HH.out, h]
    exact ⟨A2, c2, rfl, ho3, b3⟩
set_option maxHeartbeats 1000000 in
theorem specReceive (A : Option Addr) (n c : Nat) (l : List Lay) (q v : Int) (w : World) (hr : RS w 3 A n (layCells l)) (hn : n ≤ 100000000) :
    Calls Try.prog 111 #[.slice A n c, .int .i64 q, .int .i64 v] w fun e w' => ∃ A' c', e = .returned (.tuple #[.slice A' (recvOut l q v).length c', .bool (areLayers (recvL l q v))]) ∧
      w'.ownsRow w.heap.size 61 3 (.slice A' (recvOut l q v).length c') (recvOut l q v).length (layCells (recvOut l q v)) ∧ Below w.heap.size w w' := by
  obtain ⟨i0, hi, hz0, hz1, hz2⟩ := info_parts layInfo
  have hl := Lib.hid hr.lay
  go_enter Try.func111, Try.ntmps111
  go_wp2_with (first | (at_builtin; refine wpList_app _ rfl (.tmp 9) (.tmp 10) _ rfl w.heap.size 61 i0 _ 3 24 Try.underlying57 hi hz0 hz1 hz2 rfl (by omega) _ 0 [] rfl (own_empty w w.heap.size 61 3 (Nat.le_refl _)) A n c (layCells l) rfl (hr.alloc _) (layCells_one l) (by unfold maxLen; omega) (by omega) (by simp) ?_; intro A1 c1 w1 ho1 _ _ hb1; simp only [Nat.zero_add, List.nil_append] at ho1; have z1 := hb1.size; simp only [World.size_alloc] at z1) | (at_builtin; refine wpList_app _ rfl (.tmp 11) (.tmp 15) _ rfl w.heap.size 61 i0 _ 3 24 Try.underlying57 hi hz0 hz1 hz2 rfl (by omega) _ n (layCells l) rfl (ho1.alloc _) _ 1 1 (layCells [⟨q, v, 0⟩]) rfl (RS_new (by simp)) (layCells_one _) (by unfold maxLen; omega) (by omega) (by simp; omega) ?_; intro A2 c2 w2 ho2 _ _ hb2))
  have b1 : Below w.heap.size w w1 := (below_box w _).trans hb1
  have b2 : Below w.heap.size w w2 := (b1.alloc b1.size _).trans hb2
  rw [← layCells_append] at ho2
  have HL : (recvL l q v).length = n + 1 := by rw [recvL, List.length_append, hl.out]; rfl
  have HH := Lib.hid HL; clear HL
  refine (specAreLayers _ _ _ (recvL l q v) _ (RS.of_own ho2) (by omega)).mono ?_; rintro e w3 ⟨rfl, hb3⟩
  have b3 := below_then b2 hb3
  have ho3 := own_below ho2 hb3
  clear ho1 ho2 hb1 hb2 hb3 b2 b1 z1
  cases h : areLayers (recvL l q v)
  · go_wp2_with fail
    go_ret2
    have e : recvOut l q v = [] := by simp [recvOut, h]
    rw [e, h]
    exact ⟨_, _, rfl, own_empty _ _ _ _ b3.size, b3.alloc b3.size _⟩
  · go_wp2_with fail
    go_ret2
    have e : recvOut l q v = recvL l q v := by simp [recvOut, h]
    rw [e, HH.out, h]
    exact ⟨A2, c2, rfl, ho3, b3⟩

end Go.Proofs.Ytlgodbjbllpipaa
