/- The walks of DropEvent. -/
import Derived.Test.YtijnkofnpoapnaaSEvent
namespace Go.Proofs.Ytijnkofnpoapnaa
open Go.ChangeShapes Go.WideShapes Go.ChangeAt Go.RowKit

def keepEv (d : Int) (x : Ev2) : Bool := x.id != d
def dropEv (l : List Ev2) (d : Int) : List Ev2 := l.filter (keepEv d)
def dropTo (l : List Ev2) (d : Int) (k : Nat) : List Ev2 := (l.take k).filter (keepEv d)
theorem dropTo_zero (l : List Ev2) (d : Int) : dropTo l d 0 = [] := by simp [dropTo]
theorem dropTo_yes {l : List Ev2} {d : Int} {k : Nat} {x : Ev2} (h : l[k]? = some x) (hx : keepEv d x = true) : dropTo l d (k + 1) = dropTo l d k ++ [x] := by simp [dropTo, List.take_add_one, h, hx]
theorem dropTo_no {l : List Ev2} {d : Int} {k : Nat} {x : Ev2} (h : l[k]? = some x) (hx : keepEv d x = false) : dropTo l d (k + 1) = dropTo l d k := by simp [dropTo, List.take_add_one, h, hx]
theorem dropTo_len (l : List Ev2) (d : Int) (k : Nat) : (dropTo l d k).length ≤ k := by
  unfold dropTo
  exact Nat.le_trans (List.length_filter_le _ _) (by simp; omega)
theorem dropTo_all (l : List Ev2) (d : Int) : dropTo l d l.length = dropEv l d := by simp [dropTo, dropEv]

set_option maxHeartbeats 2000000 in
theorem implDropEvent (A : Option Addr) (n c : Nat) (l : List Ev2) (d : Int) (w : World) (hr : RS w 7 A n (l.flatMap e2Cell)) (hn : n ≤ 100000000) :
    Calls Try.prog 51 #[.slice A n c, .int .i64 d] w fun e w' => ∃ A' c', e = .returned (.slice A' (dropEv l d).length c') ∧ w'.ownsRow w.heap.size 70 7 (.slice A' (dropEv l d).length c') (dropEv l d).length ((dropEv l d).flatMap e2Cell) ∧ Below w.heap.size w w' := by
  have hl := Lib.hid (hr.flatLen e2Cell_len (by omega))
  obtain ⟨i0, hi, hz0, hz1, hz2⟩ := info_parts e2Info
  go_enter Try.func51, Try.ntmps51
  go_wp2
  go_loopw [5, 11] (fun v i wr => ∃ k : Nat, k ≤ n ∧ i = .int .i64 k ∧ Below w.heap.size w wr ∧ ∃ A' c', v = .slice A' (dropTo l d k).length c' ∧ wr.ownsRow w.heap.size 70 7 (.slice A' (dropTo l d k).length c') (dropTo l d k).length ((dropTo l d k).flatMap e2Cell)) (fun _ i _ => n - (intOf i).toNat)
  case atStart => exact ⟨0, Nat.zero_le _, rfl, below_box w _, _, _, rfl, own_empty w _ _ _ (Nat.le_refl _)⟩
  case round =>
    obtain ⟨k, hk, rfl, hb, A', c', rfl, ho⟩ := hrel
    by_cases hlt : k < n
    · obtain ⟨g, off, rfl, ⟨id, day, kind, item, q, a, r⟩, hx, h0, h1, h2, h3, h4, h5, h6⟩ := (hr.below hb).e2At hlt
      have DL := dropTo_len l d k
      have HX := Lib.hid hx; clear hx
      by_cases hid : id = d
      · subst hid
        have HN := Lib.hid (dropTo_no (d := id) HX.out (by simp [keepEv]))
        go_wp2
        go_roundw
        case rel =>
          refine ⟨k + 1, by omega, by go_num, hb.alloc hb.size _, A', c', ?_, ?_⟩
          · rw [HN.out]
          · rw [HN.out]; exact ho.alloc _
        case measure => simp [intOf]; omega
      · have HY := Lib.hid (dropTo_yes (d := d) HX.out (by simp [keepEv, hid]))
        have hne : (id != d) = true := by simpa using hid
        clear hid
        go_wp2_with (at_builtin; refine wpList_app _ rfl _ _ _ rfl w.heap.size 70 i0 _ 7 64 Try.underlying75 hi hz0 hz1 hz2 rfl (by omega) _ _ ((dropTo l d k).flatMap e2Cell) rfl ((ho.alloc _).alloc _) _ 1 1 (e2Cell ⟨id, day, kind, item, q, a, r⟩) rfl (RS_new2 (by simp)) (e2Cell_one _) (by unfold maxLen; omega) (by omega) (by have := hb.size; simp; omega) ?_; intro A2 c2 w2 ho2 _ _ hb2)
        go_roundw
        case rel =>
          rw [← flat_one e2Cell, ← flat_append, ← HY.out] at ho2
          refine ⟨k + 1, by omega, by go_num, ((hb.alloc hb.size _).alloc (by have := hb.size; simp; omega) _).trans hb2, A2, c2, ?_, ?_⟩
          · rw [HY.out, List.length_append]; rfl
          · have e2 : (dropTo l d k).length + 1 = (dropTo l d (k + 1)).length := by rw [HY.out, List.length_append]; rfl
            rw [← e2]; exact ho2
        case measure => simp [intOf]; omega
    · obtain rfl : n = k := by omega
      have E := Lib.hid (dropTo_all l d)
      rw [hl.out] at E
      go_wp2
      go_ret
      rw [← E.out]
      exact ⟨_, _, rfl, ho, hb⟩
set_option maxHeartbeats 2000000 in
theorem specDropEvent (A : Option Addr) (n c : Nat) (l : List Ev2) (d : Int) (w : World) (hr : RS w 7 A n (l.flatMap e2Cell)) (hn : n ≤ 100000000) :
    Calls Try.prog 49 #[.slice A n c, .int .i64 d] w fun e w' => ∃ A' c', e = .returned (.slice A' (dropEv l d).length c') ∧ w'.ownsRow w.heap.size 70 7 (.slice A' (dropEv l d).length c') (dropEv l d).length ((dropEv l d).flatMap e2Cell) ∧ Below w.heap.size w w' := by
  have hl := Lib.hid (hr.flatLen e2Cell_len (by omega))
  obtain ⟨i0, hi, hz0, hz1, hz2⟩ := info_parts e2Info
  go_enter Try.func49, Try.ntmps49
  go_wp2
  go_loopw [5, 6] (fun v i wr => ∃ k : Nat, k ≤ n ∧ i = .int .i64 k ∧ Below w.heap.size w wr ∧ ∃ A' c', v = .slice A' (dropTo l d k).length c' ∧ wr.ownsRow w.heap.size 70 7 (.slice A' (dropTo l d k).length c') (dropTo l d k).length ((dropTo l d k).flatMap e2Cell)) (fun _ i _ => n - (intOf i).toNat)
  case atStart => exact ⟨0, Nat.zero_le _, rfl, below_box w _, _, _, rfl, own_empty w _ _ _ (Nat.le_refl _)⟩
  case round =>
    obtain ⟨k, hk, rfl, hb, A', c', rfl, ho⟩ := hrel
    by_cases hlt : k < n
    · obtain ⟨g, off, rfl, ⟨id, day, kind, item, q, a, r⟩, hx, h0, h1, h2, h3, h4, h5, h6⟩ := (hr.below hb).e2At hlt
      have DL := dropTo_len l d k
      have HX := Lib.hid hx; clear hx
      have i1 : (0 : Int) ≤ k := by omega
      have i2 : (k : Int) < n := by omega
      by_cases hid : id = d
      · subst hid
        have HN := Lib.hid (dropTo_no (d := id) HX.out (by simp [keepEv]))
        go_wp2
        go_roundw
        case rel =>
          refine ⟨k + 1, by omega, by go_num, hb, A', c', ?_, ?_⟩
          · rw [HN.out]
          · rw [HN.out]; exact ho
        case measure => simp [intOf]; omega
      · have HY := Lib.hid (dropTo_yes (d := d) HX.out (by simp [keepEv, hid]))
        have hne : (id != d) = true := by simpa using hid
        clear hid
        go_wp2_with (at_builtin; refine wpList_app _ rfl _ _ _ rfl w.heap.size 70 i0 _ 7 64 Try.underlying75 hi hz0 hz1 hz2 rfl (by omega) _ _ ((dropTo l d k).flatMap e2Cell) rfl (ho.alloc _) _ 1 1 (e2Cell ⟨id, day, kind, item, q, a, r⟩) rfl (RS_new (by simp)) (e2Cell_one _) (by unfold maxLen; omega) (by omega) (by have := hb.size; simp; omega) ?_; intro A2 c2 w2 ho2 _ _ hb2)
        go_roundw
        case rel =>
          rw [← flat_one e2Cell, ← flat_append, ← HY.out] at ho2
          refine ⟨k + 1, by omega, by go_num, (hb.alloc hb.size _).trans hb2, A2, c2, ?_, ?_⟩
          · rw [HY.out, List.length_append]; rfl
          · have e2 : (dropTo l d k).length + 1 = (dropTo l d (k + 1)).length := by rw [HY.out, List.length_append]; rfl
            rw [← e2]; exact ho2
        case measure => simp [intOf]; omega
    · obtain rfl : n = k := by omega
      have E := Lib.hid (dropTo_all l d)
      rw [hl.out] at E
      go_wp2
      go_ret
      rw [← E.out]
      exact ⟨_, _, rfl, ho, hb⟩
end Go.Proofs.Ytijnkofnpoapnaa
