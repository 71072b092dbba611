/- Levels in order, sums and products within the limit: the walks of l10Order, l10Plus, l10Times. No condition. -/
import Derived.Test.YtnhkpdaogclfjaaLevW
import Derived.Test.YtnhkpdaogclfjaaCostP
namespace Go.Proofs.Ytnhkpdaogclfjaa
open Go.ChangeShapes Go.WideShapes Go.ChangeAt Go.RowKit

def natInts (l : List Nat) : List Int := l.map fun (k : Nat) => (k : Int)
theorem natInts_snoc (l : List Nat) (k : Nat) : intCells (natInts l) ++ [.int .i64 (k : Int)] = intCells (natInts (l ++ [k])) := by simp [natInts, intCells]
def ordAt (lv : List Int) (v i : Nat) : List Nat := (List.range v).flatMap (fun v : Nat => (List.range lv.length).filter fun i => decide (lvAt lv i = (v : Int))) ++ (List.range i).filter fun j => decide (lvAt lv j = (v : Int))
theorem ordAt_zero (lv : List Int) : ordAt lv 0 0 = [] := by simp [ordAt]
theorem ordAt_yes {lv : List Int} {v i : Nat} (h : lvAt lv i = v) : ordAt lv v (i + 1) = ordAt lv v i ++ [i] := by
  simp only [ordAt, List.range_succ, List.filter_append]
  simp [h]
theorem ordAt_no {lv : List Int} {v i : Nat} (h : ¬ lvAt lv i = v) : ordAt lv v (i + 1) = ordAt lv v i := by
  simp only [ordAt, List.range_succ, List.filter_append]
  simp [h]
theorem ordAt_next (lv : List Int) (v : Nat) : ordAt lv v lv.length = ordAt lv (v + 1) 0 := by
  simp only [ordAt, List.range_succ, List.flatMap_append]
  simp
theorem ordAt_all (lv : List Int) : ordAt lv lv.length 0 = lvOrder lv := by simp [ordAt, lvOrder]
theorem specPlus (a b : Int) (w : World) (ha : -9000000000000 ≤ a ∧ a ≤ 9000000000000) (hb : -9000000000000 ≤ b ∧ b ≤ 9000000000000) : Calls Try.prog 45 #[.int .i64 a, .int .i64 b] w fun e w' => e = .returned (.int .i64 (cPlus a b)) ∧ w = w' := by
  obtain ⟨a1, a2⟩ := ha
  obtain ⟨b1, b2⟩ := hb
  have wk : IntKind.i64.wrap (a + b) = a + b := IntWalk.i64_in _ (by omega)
  by_cases h1 : a < 0
  · have R := Lib.hid (show cPlus a b = -1 by unfold cPlus; rw [if_pos (.inl h1)])
    go_enter Try.func45, Try.ntmps45
    go_wp2
    go_ret
    exact ⟨ret_int R.out.symm, rfl⟩
  by_cases h2 : b < 0
  · have R := Lib.hid (show cPlus a b = -1 by unfold cPlus; rw [if_pos (.inr h2)])
    go_enter Try.func45, Try.ntmps45
    go_wp2
    go_ret
    exact ⟨ret_int R.out.symm, rfl⟩
  by_cases h3 : 1000000000 < a + b
  · have R := Lib.hid (show cPlus a b = -1 by unfold cPlus; rw [if_neg (by omega), if_pos h3])
    go_enter Try.func45, Try.ntmps45
    go_wp2
    go_ret
    exact ⟨ret_int R.out.symm, rfl⟩
  · have R := Lib.hid (show cPlus a b = a + b by unfold cPlus; rw [if_neg (by omega), if_neg h3])
    go_enter Try.func45, Try.ntmps45
    go_wp2
    go_ret
    exact ⟨ret_int R.out.symm, rfl⟩
theorem times_lim {a b : Int} (ha : 0 < a) : 1000000000 / a < b ↔ 1000000000 < a * b := by
  rw [Int.ediv_lt_iff_lt_mul ha, Int.mul_comm]
theorem specTimes (a b : Int) (w : World) (ha : -1 ≤ a ∧ a ≤ 1000000000) (hb : -1000000 ≤ b ∧ b ≤ 1000000) : Calls Try.prog 46 #[.int .i64 a, .int .i64 b] w fun e w' => e = .returned (.int .i64 (cTimes a b)) ∧ w = w' := by
  by_cases h1 : a < 0
  · have R := Lib.hid (show cTimes a b = -1 by unfold cTimes; rw [if_pos (.inl h1)])
    go_enter Try.func46, Try.ntmps46
    go_wp2
    go_ret
    exact ⟨ret_int R.out.symm, rfl⟩
  by_cases h2 : b < 0
  · have R := Lib.hid (show cTimes a b = -1 by unfold cTimes; rw [if_pos (.inr h2)])
    go_enter Try.func46, Try.ntmps46
    go_wp2
    go_ret
    exact ⟨ret_int R.out.symm, rfl⟩
  by_cases h0 : a = 0
  · subst h0
    have R := Lib.hid (show cTimes 0 b = 0 by unfold cTimes; rw [if_neg (by omega)]; simp)
    go_enter Try.func46, Try.ntmps46
    go_wp2
    go_ret
    exact ⟨ret_int R.out.symm, rfl⟩
  have a0 : 0 < a := by omega
  have an : ¬ a = 0 := h0
  have td : Int.tdiv 1000000000 a = 1000000000 / a := Int.tdiv_eq_ediv_of_nonneg (by omega)
  have dq : 0 ≤ 1000000000 / a ∧ 1000000000 / a ≤ 1000000000 := ⟨Int.ediv_nonneg (by omega) (by omega), Int.ediv_le_self _ (by omega)⟩
  have wq : IntKind.i64.wrap (Int.tdiv 1000000000 a) = 1000000000 / a := by rw [td]; exact IntWalk.i64_in _ (by omega)
  obtain ⟨qq, hqq⟩ : ∃ qq, qq = 1000000000 / a := ⟨_, rfl⟩
  have LM := times_lim (b := b) a0
  have p0 : 0 ≤ a * b := Int.mul_nonneg (by omega) (by omega)
  have p1 : a * b ≤ 1000000000 * 1000000 := Int.mul_le_mul ha.2 hb.2 (by omega) (by omega)
  have wk : IntKind.i64.wrap (a * b) = a * b := IntWalk.i64_in _ (by omega)
  rw [← hqq] at LM wq dq
  clear hqq td
  by_cases h3 : qq < b
  · have R := Lib.hid (show cTimes a b = -1 by unfold cTimes; rw [if_neg (by omega), if_pos (LM.1 h3)])
    clear LM
    go_enter Try.func46, Try.ntmps46
    go_wp2
    go_ret
    exact ⟨ret_int R.out.symm, rfl⟩
  · have R := Lib.hid (show cTimes a b = a * b by unfold cTimes; rw [if_neg (by omega), if_neg (fun h => h3 (LM.2 h))])
    clear LM
    go_enter Try.func46, Try.ntmps46
    go_wp2
    go_ret
    exact ⟨ret_int R.out.symm, rfl⟩
set_option maxRecDepth 100000 in
set_option maxHeartbeats 4000000 in
theorem specOrder (A : Option Addr) (n c : Nat) (lv : List Int) (w : World) (hr : RS w 1 A n (intCells lv)) (hn : n ≤ 12) :
    Calls Try.prog 42 #[.slice A n c] w fun e w' => ∃ B q d, e = .returned (.slice B q d) ∧ q ≤ 144 ∧ w'.ownsRow w.heap.size 3 1 (.slice B q d) q (intCells (natInts (lvOrder lv))) ∧ Below w.heap.size w w' := by
  have hl := Lib.hid hr.ints
  obtain ⟨i0, hi, hz0, hz1, hz2⟩ := info_parts numInfo
  have O0 := own_empty w w.heap.size 3 1 (Nat.le_refl _)
  have B0 := below_box w (Obj.cells #[] 3)
  go_enter Try.func42, Try.ntmps42
  go_wp2_with fail
  go_loopw [3, 4] (fun st i wr => ∃ (v : Nat) (B : Option Addr) (q d : Nat), v ≤ n ∧ i = .int .i64 v ∧ st = .slice B q d ∧ q ≤ v * 12 ∧ wr.ownsRow w.heap.size 3 1 (.slice B q d) q (intCells (natInts (ordAt lv v 0))) ∧ Below w.heap.size w wr) (fun _ i _ => n - (intOf i).toNat)
  case atStart => exact ⟨0, _, 0, _, Nat.zero_le _, rfl, rfl, by omega, by simpa [ordAt_zero, natInts] using O0, B0⟩
  case round =>
    obtain ⟨v, B, q, d, hv, rfl, rfl, hq, ho, hb⟩ := hrel
    clear O0 B0
    obtain ⟨wu, rfl⟩ : ∃ wu : World, wu = wr := ⟨_, rfl⟩
    by_cases hlt : v < n
    · have v1 : (0 : Int) ≤ v := by omega
      have v2 : (v : Int) < n := by omega
      go_wp2_with fail
      go_loopw [3, 5] (fun st i wz => ∃ (j : Nat) (B : Option Addr) (q d : Nat), j ≤ n ∧ i = .int .i64 j ∧ st = .slice B q d ∧ q ≤ v * 12 + j ∧ wz.ownsRow w.heap.size 3 1 (.slice B q d) q (intCells (natInts (ordAt lv v j))) ∧ Below w.heap.size w wz) (fun _ i _ => n - (intOf i).toNat)
      case atStart => exact ⟨0, B, q, d, Nat.zero_le _, rfl, rfl, by omega, ho, hb⟩
      case round =>
        obtain ⟨j, B, q, d, hj, rfl, rfl, hq, ho, hb⟩ := hrel
        have hz := hb.size
        by_cases hlt2 : j < n
        · obtain ⟨g, off, rfl, x, hx, cx⟩ := (hr.below hb).intAt hlt2
          have XL := Lib.hid (lvAt_of hx)
          clear hx
          have j1 : (0 : Int) ≤ j := by omega
          have j2 : (j : Int) < n := by omega
          by_cases he : x = v
          · subst he
            have ON := Lib.hid (ordAt_yes XL.out)
            have OB := ho.alloc (Obj.cells #[.int .i64 (j : Int)] 3)
            go_wp2_with (at_builtin; refine wpList_app _ rfl _ _ _ rfl w.heap.size 3 i0 _ 1 8 Try.underlying77 hi hz0 hz1 hz2 rfl (by omega) _ q (intCells (natInts (ordAt lv v j))) rfl OB _ 1 1 [.int .i64 (j : Int)] rfl (RS_new (by simp)) (by simp [Value.oneCell']) (by unfold maxLen; omega) (by omega) (by simp; omega) ?_; intro A4 c4 w4 o4 g4 at4 b4)
            rw [natInts_snoc] at o4
            have BN := Lib.hid ((below_then hb (below_box _ (Obj.cells #[.int .i64 (j : Int)] 3))).trans b4)
            clear g4 at4 b4 OB
            go_roundw
            case rel => exact ⟨j + 1, A4, q + 1, c4, by omega, by go_num, rfl, by omega, by rw [ON.out]; exact o4, BN.out⟩
            case measure => simp [intOf]; omega
          · have ON := Lib.hid (ordAt_no (lv := lv) (v := v) (i := j) (by rw [XL.out]; exact he))
            have q0 : (x == (v : Int)) = false := by simpa using he
            clear he
            go_wp2_with fail
            go_roundw
            case rel => exact ⟨j + 1, B, q, d, by omega, by go_num, rfl, by omega, by rw [ON.out]; exact ho, hb⟩
            case measure => simp [intOf]; omega
        · obtain rfl : n = j := by omega
          have NX := Lib.hid (show ordAt lv v n = ordAt lv (v + 1) 0 by have := ordAt_next lv v; rw [hl.out] at this; exact this)
          rw [NX.out] at ho
          go_wp2_with fail
          go_roundw
          case rel => exact ⟨v + 1, B, q, d, by omega, by go_num, rfl, by omega, ho, hb⟩
          case measure => simp [intOf]; omega
    · obtain rfl : n = v := by omega
      have AL : ordAt lv n 0 = lvOrder lv := by rw [← hl.out]; exact ordAt_all lv
      rw [AL] at ho
      clear AL
      go_wp2_with fail
      go_ret
      exact ⟨B, q, d, rfl, by omega, ho, hb⟩
end Go.Proofs.Ytnhkpdaogclfjaa
