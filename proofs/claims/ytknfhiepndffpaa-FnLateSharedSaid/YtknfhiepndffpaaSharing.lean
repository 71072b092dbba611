/- The walk of IsSharing, where the shares are right. -/
import Derived.Test.YtknfhiepndffpaaInts2
import Derived.Test.YtknfhiepndffpaaShare2
namespace Go.Proofs.Ytknfhiepndffpaa
open Go.ChangeShapes Go.WideShapes Go.ChangeAt Go.RowKit

theorem floor_neg {n d : Int} (hn : n < 0) (hd : 1 ≤ d) : (n.tmod d < 0 → n.tdiv d - 1 = n / d) ∧ (¬ n.tmod d < 0 → n.tdiv d = n / d) ∧ -((-n) / d) = n.tdiv d ∧ n.tmod d = -((-n) % d) := by
  have e : n = -(-n) := by omega
  have t1 : n.tdiv d = -((-n) / d) := by rw [e, Int.neg_tdiv, Int.tdiv_eq_ediv_of_nonneg (by omega)]; simp
  have t2 : n.tmod d = -((-n) % d) := by rw [e, Int.neg_tmod, Int.tmod_eq_emod_of_nonneg (by omega)]; simp
  have hm0 := Int.emod_nonneg (-n) (show d ≠ 0 by omega)
  have hm1 := Int.emod_lt_of_pos (-n) (show 0 < d by omega)
  have hm := Int.emod_add_mul_ediv (-n) d
  refine ⟨fun h => ?_, fun h => ?_, t1.symm, t2⟩
  · rw [t2] at h
    rw [t1]
    have := (Int.ediv_emod_unique (a := n) (b := d) (q := -(-n / d) - 1) (r := d - (-n) % d) (by omega)).2 ⟨by rw [Int.mul_sub, Int.mul_neg]; omega, by omega, by omega⟩
    exact this.1.symm
  · rw [t2] at h
    rw [t1]
    have := (Int.ediv_emod_unique (a := n) (b := d) (q := -(-n / d)) (r := 0) (by omega)).2 ⟨by rw [Int.mul_neg]; omega, by omega, by omega⟩
    exact this.1.symm

theorem specFloor (n d : Int) (w : World) (hd : 1 ≤ d) (h1 : -4000000000000000000 ≤ n) (h2 : n ≤ 4000000000000000000) (hd2 : d ≤ 9223372036854775807) :
    Calls Try.prog 65 #[.int .i64 n, .int .i64 d] w fun e w' => e = .returned (.int .i64 (n / d)) ∧ w = w' := by
  by_cases h0 : 0 ≤ n
  · have hm := Int.emod_nonneg n (show d ≠ 0 by omega)
    have q1 := Int.ediv_nonneg h0 (show 0 ≤ d by omega)
    have q2 := Int.ediv_le_self d h0
    go_enter Try.func65, Try.ntmps65
    go_wp2
    go_ret
    exact ⟨rfl, rfl⟩
  · obtain ⟨f1, f2, f3, f4⟩ := floor_neg (n := n) (d := d) (by omega) hd
    have q1 := Int.ediv_nonneg (show 0 ≤ -n by omega) (show 0 ≤ d by omega)
    have q2 := Int.ediv_le_self d (show 0 ≤ -n by omega)
    have q3 : -4000000000000000000 ≤ n.tdiv d := by omega
    have q4 : n.tdiv d ≤ 0 := by omega
    have hn : ¬ 0 ≤ n := h0
    have F3 := Lib.hid f3; have F4 := Lib.hid f4; have F1 := Lib.hid f1; have F2 := Lib.hid f2
    clear f1 f2 f3 f4
    by_cases ht : n.tmod d < 0
    · go_enter Try.func65, Try.ntmps65
      go_wp2
      go_ret
      exact ⟨ret_int (F1.out ht), rfl⟩
    · go_enter Try.func65, Try.ntmps65
      go_wp2
      go_ret
      exact ⟨ret_int (F2.out ht), rfl⟩

set_option maxHeartbeats 1000000 in
theorem isSharing_true (a : Int) (A : Option Addr) (n c : Nat) (l : List Int) (B : Option Addr) (d : Nat) (w : World) (hr : RS w 1 A n (intCells l)) (hs : RS w 1 B n (intCells (appTo a l n))) (hW : areW l = true) (a1 : -1000000000 ≤ a) (a2 : a ≤ 1000000000) :
    Calls Try.prog 47 #[.int .i64 a, .slice A n c, .slice B n d] w fun e w' => e = .returned (.bool true) ∧ Below w.heap.size w w' := by
  have hl := Lib.hid hr.ints
  have HW := Lib.hid hW; clear hW
  have hin : Hid (inB a (-1000000000) 1000000000 = true) := inB_true.2 ⟨a1, a2⟩
  obtain ⟨u, h40, pos⟩ := areW_ups HW.out
  rw [hl.out] at h40
  have U : ups 1000000000 l := fun x hx => by have := u x hx; omega
  have bs := sumI_bd' (N := 40) u (by omega) (by rw [hl.out]; exact h40) n (by rw [hl.out]; exact Nat.le_refl _)
  rw [show sumI l n = l.sum by rw [← sumI_all, hl.out]] at bs
  have HU := Lib.hid U; have Hu := Lib.hid u
  clear U u
  obtain ⟨s, es⟩ : ∃ s, l.sum = s := ⟨_, rfl⟩
  rw [es] at bs pos
  have ES := Lib.hid es; clear es
  go_enter Try.func47, Try.ntmps47
  go_wp2_with fail
  refine (specAreW _ _ _ l _ hr (by omega)).mono ?_; rw [HW.out]; rintro e w' ⟨rfl, rfl⟩
  go_wp2_with fail
  refine (spec_in _ _ _ _).mono ?_; rw [hin.out]; rintro e w' ⟨rfl, rfl⟩
  go_wp2_with fail
  refine (specSum _ _ _ l _ hr (by omega) HU.out).mono ?_; rw [ES.out]; rintro e w' ⟨rfl, rfl⟩
  go_wp2_with fail
  go_loopw [8, 9] (fun t i wr => ∃ k : Nat, k ≤ n ∧ i = .int .i64 k ∧ t = .int .i64 (a - shareI a l k) ∧ Below w.heap.size w wr) (fun _ i _ => n - (intOf i).toNat)
  case atStart => exact ⟨0, Nat.zero_le _, rfl, by rw [share_zero]; simp, Below.refl _ _⟩
  case round =>
    obtain ⟨k, hk, rfl, rfl, hb⟩ := hrel
    have b1 := shareI_bd HW.out a1 a2 k (by rw [hl.out]; omega)
    by_cases hlt : k < n
    · obtain ⟨g, off, rfl, x, hx, hc⟩ := (hr.below hb).intAt hlt
      obtain ⟨g', off', rfl, y, hy, hc'⟩ := (hs.below hb).intAt hlt
      rw [appTo_at hlt] at hy
      injection hy with hy
      have b2 := shareI_bd HW.out a1 a2 (k + 1) (by rw [hl.out]; omega)
      have st := share_step (a := a) HW.out hx
      have hx1 := Hu.out x (List.mem_of_getElem? hx)
      have m := mul_abs a1 a2 hx1.1 hx1.2
      rw [hy, ES.out] at st
      have e2 : shareI a l (k + 1) = shareI a l k + y := by omega
      have EY := Lib.hid e2
      rw [e2] at b2
      clear hx hy e2
      obtain ⟨st1, st2⟩ := st
      have q1 := Int.ediv_le_self s (show (0 : Int) ≤ a * x - a * x by omega)
      have hd1 : -1000000000000000 ≤ -(a * x) / s := by
        rw [Int.le_ediv_iff_mul_le pos]
        have := Int.mul_le_mul_of_nonneg_left (show (1 : Int) ≤ s by omega) (show (0 : Int) ≤ 1000000000000000 by omega)
        omega
      have hd2 : -(a * x) / s ≤ 1000000000000000 := by
        apply Int.ediv_le_of_le_mul pos
        have := Int.mul_le_mul_of_nonneg_left (show (1 : Int) ≤ s by omega) (show (0 : Int) ≤ 1000000000000000 by omega)
        omega
      have hw1 : IntKind.i64.wrap (-(a * x)) = -(a * x) := IntWalk.i64_in _ (by omega)
      have hw2 : IntKind.i64.wrap (-(-(a * x) / s)) = -(-(a * x) / s) := IntWalk.i64_in _ (by omega)
      have g1 : decide (y < a * x / s) = false := by simp; omega
      have g2 : decide (-(-(a * x) / s) < y) = false := by simp; omega
      have i1 : (0 : Int) ≤ k := by omega
      have i2 : (k : Int) < n := by omega
      clear q1
      go_wp2_with fail
      go_quiet ((go_at_call 65; exact quiet_left (specFloor _ _ _ (by omega) (by omega) (by omega) (by omega))))
      clear hw1 hw2
      go_wp2_with fail
      go_roundw
      case rel => exact ⟨k + 1, by omega, by go_num, by rw [EY.out]; go_num, below_drewN hb _⟩
      case measure => simp [intOf]; omega
    · obtain rfl : n = k := by omega
      have e0 : a - shareI a l n = 0 := by rw [← hl.out, share_all HW.out]; omega
      rw [e0]
      clear e0
      go_wp2_with fail
      go_ret
      exact ⟨rfl, hb⟩
end Go.Proofs.Ytknfhiepndffpaa
