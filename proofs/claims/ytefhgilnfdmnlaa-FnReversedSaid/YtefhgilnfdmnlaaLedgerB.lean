/- Entries: the walks of NegateEntries. -/
import Derived.Test.YtefhgilnfdmnlaaLedgerA
namespace Go.Proofs.Ytefhgilnfdmnlaa
open Go.ChangeShapes Go.WideShapes Go.ChangeAt Go.RowKit

def negE (x : En) : En := ⟨x.acc, wrap64 (-x.amt)⟩
def negEn (l : List En) : List En := l.map negE
theorem negEn_len (l : List En) : (negEn l).length = l.length := List.length_map _
theorem neg_take {l : List En} {k : Nat} {x : En} (h : l[k]? = some x) : negEn (l.take (k + 1)) = negEn (l.take k) ++ [negE x] := by
  simp [negEn, List.take_add_one, h]
set_option maxRecDepth 100000 in
set_option maxHeartbeats 2000000 in
theorem implNegate (A : Option Addr) (n c : Nat) (l : List En) (w : World) (hr : RS w 2 A n (l.flatMap enCell)) (hn : n ≤ 1048600) :
    Calls Try.prog 20 #[.slice A n c] w fun e w' => ∃ A' c', e = .returned (.slice A' (negEn l).length c') ∧ w'.ownsRow w.heap.size 47 2 (.slice A' (negEn l).length c') (negEn l).length ((negEn l).flatMap enCell) ∧ Below w.heap.size w w' := by
  have hl := Lib.hid (hr.flatLen enCell_len (by omega))
  obtain ⟨i0, hi, hz0, hz1, hz2⟩ := info_parts enInfo
  go_enter Try.func20, Try.ntmps20
  go_wp2
  go_loopw [3, 9] (fun v i wr => ∃ k : Nat, k ≤ n ∧ i = .int .i64 k ∧ Below w.heap.size w wr ∧ ∃ A' c', v = .slice A' k c' ∧ wr.ownsRow w.heap.size 47 2 (.slice A' k c') k ((negEn (l.take k)).flatMap enCell)) (fun _ i _ => n - (intOf i).toNat)
  case atStart => exact ⟨0, Nat.zero_le _, rfl, below_box w _, _, _, rfl, own_empty w _ _ _ (Nat.le_refl _)⟩
  case round =>
    obtain ⟨k, hk, rfl, hb, A', c', rfl, ho⟩ := hrel
    by_cases hlt : k < n
    · obtain ⟨g, off, rfl, ⟨acc, amt⟩, hx, h0, h1⟩ := (hr.below hb).enAt hlt
      have NT := Lib.hid (neg_take hx)
      simp only [negE] at NT
      clear hx
      go_wp2_with (at_builtin; refine wpList_app _ rfl _ _ _ rfl w.heap.size 47 i0 _ 2 24 Try.underlying25 hi hz0 hz1 hz2 rfl (by omega) _ k ((negEn (l.take k)).flatMap enCell) rfl ((ho.alloc _).alloc _) _ 1 1 (enCell ⟨acc, wrap64 (-amt)⟩) rfl (RS_new2 (by simp)) (enCell_one _) (by unfold maxLen; omega) (by omega) (by have := hb.size; simp; omega) ?_; intro A2 c2 w2 ho2 _ _ hb2)
      go_roundw
      case rel =>
        rw [← flat_one enCell, ← flat_append, ← NT.out] at ho2
        exact ⟨k + 1, by omega, by go_num, ((hb.alloc hb.size _).alloc (by have := hb.size; simp; omega) _).trans hb2, A2, c2, rfl, ho2⟩
      case measure => simp [intOf]; omega
    · obtain rfl : n = k := by omega
      have TK := Lib.hid (show negEn (l.take n) = negEn l by rw [List.take_of_length_le (by rw [hl.out]; exact Nat.le_refl _)])
      go_wp2
      go_ret
      rw [TK.out] at ho
      rw [negEn_len, hl.out]
      exact ⟨_, _, rfl, ho, hb⟩
set_option maxRecDepth 100000 in
set_option maxHeartbeats 2000000 in
theorem specNegate (A : Option Addr) (n c : Nat) (l : List En) (w : World) (hr : RS w 2 A n (l.flatMap enCell)) (hn : n ≤ 1048600) :
    Calls Try.prog 19 #[.slice A n c] w fun e w' => ∃ A' c', e = .returned (.slice A' (negEn l).length c') ∧ w'.ownsRow w.heap.size 47 2 (.slice A' (negEn l).length c') (negEn l).length ((negEn l).flatMap enCell) ∧ Below w.heap.size w w' := by
  have hl := Lib.hid (hr.flatLen enCell_len (by omega))
  obtain ⟨i0, hi, hz0, hz1, hz2⟩ := info_parts enInfo
  go_enter Try.func19, Try.ntmps19
  go_wp2
  go_loopw [3, 4] (fun v i wr => ∃ k : Nat, k ≤ n ∧ i = .int .i64 k ∧ Below w.heap.size w wr ∧ ∃ A' c', v = .slice A' k c' ∧ wr.ownsRow w.heap.size 47 2 (.slice A' k c') k ((negEn (l.take k)).flatMap enCell)) (fun _ i _ => n - (intOf i).toNat)
  case atStart => exact ⟨0, Nat.zero_le _, rfl, below_box w _, _, _, rfl, own_empty w _ _ _ (Nat.le_refl _)⟩
  case round =>
    obtain ⟨k, hk, rfl, hb, A', c', rfl, ho⟩ := hrel
    by_cases hlt : k < n
    · obtain ⟨g, off, hA, ⟨acc, amt⟩, hx, h0w, h1w⟩ := hr.enAt hlt
      simp only at h0w h1w
      have h0 := cell_keep hb h0w
      have h1 := cell_keep hb h1w
      have gl : g < w.heap.size := World.block_lt_of_cell? w _ h0w
      subst hA
      have NT := Lib.hid (neg_take hx)
      simp only [negE] at NT
      clear hx h0w h1w
      have i1 : (0 : Int) ≤ k := by omega
      have i2 : (k : Int) < n := by omega
      have zb := hb.size
      have ag : (Value.slice A' k c').ownBlock ≠ some g := fun he => by have := (ho.lt g he).1; omega
      go_wp2_with fail
      go_region_held3 (fun w' => w'.cell? ⟨g, off + k * 2, none⟩ = some (.string acc) ∧ w'.cell? ⟨g, off + k * 2 + 1, none⟩ = some (.int .i64 amt))
        (first
          | go_keep
          | (go_split_ands
             refine ⟨?_, ?_⟩
             · (rw [hgrow.cell_far _ (by simp; omega) (Ne.symm ag)]; assumption)
             · (rw [hgrow.cell_far _ (by simp; omega) (Ne.symm ag)]; assumption)))
        ((refine step_append_lies _ (by rfl) _ _ _ (by rfl) w.heap.size 47 i0 _ 2 24 Try.underlying25 hi hz0 hz1 hz2 rfl (by omega) (.slice A' k c') k ((negEn (l.take k)).flatMap enCell) (by rfl) ((ho.alloc _).drew)
            ⟨wr.heap.size, 0, none⟩ 1 1 [.string acc, .int .i64 (IntKind.i64.wrap (-amt))] (by rfl) (by rfl) (World.news_of_block (cs := #[.string acc, .int .i64 (IntKind.i64.wrap (-amt))]) (t := 47) (fr := (0, 0)) (heap_alloc_new wr _)) (by simp [Value.oneCell'])
            (by omega) (by unfold maxLen; omega) (by omega) (by simp; omega) (wr.heap.size + 1) (by simp) ?_; intro gg cap w6 os6 hgrow hat hlt'))
      have b6 : Below w.heap.size w w6 := ((hb.alloc hb.size (Obj.cells #[.string acc, .int .i64 (IntKind.i64.wrap (-amt))] 47)).drew).trans (below_of_grown ((ho.alloc (Obj.cells #[.string acc, .int .i64 (IntKind.i64.wrap (-amt))] 47)).drew) hgrow (Nat.le_refl _) (by simp; omega))
      have os7 : w6.ownsRow w.heap.size 47 2 (.slice (some ⟨gg, 0, none⟩) (k + 1) cap) (k + 1) ((negEn (l.take (k + 1))).flatMap enCell) := by
        rw [NT.out, flat_append, flat_one, ← IntWalk.i64_left]; exact os6
      clear os6 hgrow hat
      go_wp2_with fail
      go_roundw
      case rel => exact ⟨k + 1, by omega, by go_num, b6, some ⟨gg, 0, none⟩, cap, rfl, os7⟩
      case measure => simp [intOf]; omega
    · obtain rfl : n = k := by omega
      have TK := Lib.hid (show negEn (l.take n) = negEn l by rw [List.take_of_length_le (by rw [hl.out]; exact Nat.le_refl _)])
      go_wp2
      go_ret
      rw [TK.out] at ho
      rw [negEn_len, hl.out]
      exact ⟨_, _, rfl, ho, hb⟩
end Go.Proofs.Ytefhgilnfdmnlaa
