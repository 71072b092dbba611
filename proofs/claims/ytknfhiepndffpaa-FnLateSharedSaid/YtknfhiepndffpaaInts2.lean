/- The walks of Apportion. -/
import Derived.Test.YtknfhiepndffpaaInts
namespace Go.Proofs.Ytknfhiepndffpaa
open Go.ChangeShapes Go.WideShapes Go.ChangeAt Go.RowKit

theorem intInfo : (Try.prog.info? 3).map (fun i => (i.zero, i.size, i.bytes)) = some (some (.int .i64 0), 1, 8) := by kernel_rfl
def appTo (t : Int) (l : List Int) (k : Nat) : List Int := (List.range k).map fun j => shareI t l (j + 1) - shareI t l j
theorem appTo_zero (t : Int) (l : List Int) : appTo t l 0 = [] := rfl
theorem appTo_succ (t : Int) (l : List Int) (k : Nat) : appTo t l (k + 1) = appTo t l k ++ [shareI t l (k + 1) - shareI t l k] := by simp [appTo, List.range_succ]
theorem appTo_len (t : Int) (l : List Int) (k : Nat) : (appTo t l k).length = k := by simp [appTo]
def appOut (t : Int) (l : List Int) : List Int := if shareOk t l then appTo t l l.length else []
theorem shareOk_areW {t : Int} {l : List Int} (h : shareOk t l = true) : areW l = true ∧ -1000000000 ≤ t ∧ t ≤ 1000000000 := by
  simp only [shareOk, Bool.and_eq_true, inB_true] at h; exact h
theorem shareOk_pos {t : Int} {l : List Int} (h : shareOk t l = true) : 0 < l.length ∧ l.length ≤ 40 := by
  obtain ⟨_, h2, h3⟩ := areW_ups (shareOk_areW h).1
  refine ⟨?_, h2⟩
  cases l
  · simp at h3
  · simp
theorem shareAt_ok {t : Int} {l : List Int} (h : shareOk t l = true) {k : Nat} (hk : k ≤ l.length) : shareAt t l (k : Int) = shareI t l k ∧ (shareOk t l && inB (k : Int) 0 (l.length : Int)) = true := by
  have e : (shareOk t l && inB (k : Int) 0 (l.length : Int)) = true := by rw [h, Bool.true_and, inB_true]; omega
  exact ⟨by rw [shareAt, if_pos e, Int.toNat_natCast], e⟩

set_option maxHeartbeats 1000000 in
theorem implApportion (t : Int) (A : Option Addr) (n c : Nat) (l : List Int) (w : World) (hr : RS w 1 A n (intCells l)) (hn : n ≤ 9223372036854775807) (hc : n ≤ c) :
    Calls Try.prog 62 #[.int .i64 t, .slice A n c] w fun e w' => ∃ A' c', e = .returned (.tuple #[.slice A' (appOut t l).length c', .bool (shareOk t l)]) ∧
      w'.ownsRow w.heap.size 3 1 (.slice A' (appOut t l).length c') (appOut t l).length (intCells (appOut t l)) ∧ Below w.heap.size w w' := by
  obtain ⟨i0, hi, hz0, hz1, hz2⟩ := info_parts intInfo
  have hl := Lib.hid hr.ints
  cases h1 : areW l
  · have e : shareOk t l = false := by simp [shareOk, h1]
    have e2 : appOut t l = [] := by simp [appOut, e]
    rw [e, e2]; clear e e2
    go_enter Try.func62, Try.ntmps62
    go_wp2_with (go_at_call 71; refine (implAreW _ _ _ l _ hr hn).mono ?_; rw [h1]; rintro e w' ⟨rfl, rfl⟩)
    go_ret2
    exact ⟨none, 0, rfl, World.ownsRow_nil _ _ _ _, Below.refl _ _⟩
  · have H1 := Lib.hid h1; clear h1
    cases h2 : inB t (-1000000000) 1000000000
    · have e : shareOk t l = false := by simp [shareOk, h2]
      have e2 : appOut t l = [] := by simp [appOut, e]
      rw [e, e2]; clear e e2
      go_enter Try.func62, Try.ntmps62
      go_wp2_with (first | (go_at_call 71; refine (implAreW _ _ _ l _ hr hn).mono ?_; rw [H1.out]; rintro e w' ⟨rfl, rfl⟩) | (go_at_call 52; refine (impl_in _ _ _ _).mono ?_; rw [h2]; rintro e w' ⟨rfl, rfl⟩))
      go_ret2
      exact ⟨none, 0, rfl, World.ownsRow_nil _ _ _ _, Below.refl _ _⟩
    · have ok : shareOk t l = true := by simp [shareOk, h2, H1.out]
      have e2 : appOut t l = appTo t l n := by rw [appOut, if_pos ok, hl.out]
      rw [ok, e2]; clear e2
      have OK := Lib.hid ok; have H2 := Lib.hid h2; clear h2 ok
      have ht := inB_true.1 H2.out
      have n40 := (shareOk_pos OK.out).2
      rw [hl.out] at n40
      go_enter Try.func62, Try.ntmps62
      go_wp2_with fail
      refine (implAreW _ _ _ l _ hr hn).mono ?_; rw [H1.out]; rintro e w' ⟨rfl, rfl⟩
      go_wp2_with fail
      refine (impl_in _ _ _ _).mono ?_; rw [H2.out]; rintro e w' ⟨rfl, rfl⟩
      go_wp2_with fail
      go_loopw [6, 23] (fun v i wr => ∃ k : Nat, k ≤ n ∧ i = .int .i64 k ∧ Below w.heap.size w wr ∧ ∃ A' c', v = .slice A' k c' ∧ wr.ownsRow w.heap.size 3 1 (.slice A' k c') k (intCells (appTo t l k))) (fun _ i _ => n - (intOf i).toNat)
      case atStart => exact ⟨0, Nat.zero_le _, rfl, below_box w _, _, _, rfl, own_empty w _ _ _ (Nat.le_refl _)⟩
      case round =>
        obtain ⟨k, hk, rfl, hb, A', c', rfl, ho⟩ := hrel
        have hrk := hr.below hb
        by_cases hlt : k < n
        · obtain ⟨s1, s2⟩ := shareAt_ok OK.out (k := k) (by rw [hl.out]; omega)
          obtain ⟨s3, s4⟩ := shareAt_ok OK.out (k := k + 1) (by rw [hl.out]; omega)
          have b1 := shareI_bd H1.out ht.1 ht.2 k (by rw [hl.out]; omega)
          have b2 := shareI_bd H1.out ht.1 ht.2 (k + 1) (by rw [hl.out]; omega)
          have S1 := Lib.hid s1; have S2 := Lib.hid s2; have S3 := Lib.hid s3; have S4 := Lib.hid s4
          have e1 : ((k : Int) + 1) = ((k + 1 : Nat) : Int) := by omega
          have E1 := Lib.hid e1
          clear s1 s2 s3 s4 e1
          go_wp2_with fail
          refine (implShareTo _ _ _ _ l _ _ hrk hn hc).mono ?_; rw [S1.out, S2.out]; rintro e w' ⟨rfl, rfl⟩
          go_wp2_with fail
          rw [E1.out]
          refine (implShareTo _ _ _ _ l _ _ hrk hn hc).mono ?_; rw [S3.out, S4.out]; rintro e w' ⟨rfl, rfl⟩
          go_wp2_with (at_builtin; refine wpList_app _ rfl _ _ _ rfl w.heap.size 3 i0 _ 1 8 Try.underlying47 hi hz0 hz1 hz2 rfl (by omega) _ k (intCells (appTo t l k)) rfl (ho.alloc _) _ 1 1 (intCells [shareI t l (k + 1) - shareI t l k]) rfl (RS_new (by simp)) (intCells_one _) (by unfold maxLen; omega) (by omega) (by have := hb.size; simp; omega) ?_; intro A2 c2 w2 ho2 _ _ hb2)
          go_roundw
          case rel =>
            rw [← List.map_append, ← appTo_succ] at ho2
            exact ⟨k + 1, by omega, by go_num, (hb.alloc hb.size _).trans hb2, A2, c2, rfl, ho2⟩
          case measure => simp [intOf]; omega
        · obtain rfl : n = k := by omega
          go_wp2_with fail
          go_ret2
          exact ⟨A', c', by rw [appTo_len]; rfl, by rw [appTo_len]; exact ho, hb⟩
set_option maxHeartbeats 1000000 in
theorem specApportion (t : Int) (A : Option Addr) (n c : Nat) (l : List Int) (w : World) (hr : RS w 1 A n (intCells l)) (hn : n ≤ 9223372036854775807) (hc : n ≤ c) :
    Calls Try.prog 61 #[.int .i64 t, .slice A n c] w fun e w' => ∃ A' c', e = .returned (.tuple #[.slice A' (appOut t l).length c', .bool (shareOk t l)]) ∧
      w'.ownsRow w.heap.size 3 1 (.slice A' (appOut t l).length c') (appOut t l).length (intCells (appOut t l)) ∧ Below w.heap.size w w' := by
  obtain ⟨i0, hi, hz0, hz1, hz2⟩ := info_parts intInfo
  have hl := Lib.hid hr.ints
  cases ok : shareOk t l
  · have e2 : appOut t l = [] := by simp [appOut, ok]
    rw [e2]; clear e2
    have OK := Lib.hid ok; clear ok
    rcases Nat.eq_zero_or_pos n with h0 | h0
    · have hn0 : ¬ 0 < n := by omega
      have d0 : decide ((n : Int) > 0) = false := by simp; omega
      clear h0
      go_enter Try.func61, Try.ntmps61
      go_wp2_with fail
      refine wp_loop_once ?_
      go_wp2_with fail
      go_ret2
      exact ⟨_, _, rfl, own_empty w _ _ _ (Nat.le_refl _), below_box w _⟩
    · have hrk := hr.below (below_box w (Obj.cells #[] 3))
      have S1 := Lib.hid (show (shareOk t l && inB (0 : Int) 0 (l.length : Int)) = false by rw [OK.out]; rfl)
      go_enter Try.func61, Try.ntmps61
      go_wp2_with fail
      refine wp_loop_once ?_
      go_wp2_with fail
      refine (specShareTo _ _ _ _ l _ _ hrk hn hc).mono ?_; rw [S1.out]; rintro e w' ⟨rfl, rfl⟩
      go_wp2_with fail
      go_ret2
      exact ⟨_, _, rfl, by have := own_empty (w.alloc (Obj.cells #[] 3)) w.heap.size 3 1 (below_box w _).size; simpa using this, (below_box w _).alloc (below_box w _).size _⟩
  · have e2 : appOut t l = appTo t l n := by rw [appOut, if_pos ok, hl.out]
    rw [e2]; clear e2
    have OK := Lib.hid ok; clear ok
    obtain ⟨h1, ht⟩ := shareOk_areW OK.out
    have H1 := Lib.hid h1; clear h1
    have n40 := (shareOk_pos OK.out).2
    have n0 := (shareOk_pos OK.out).1
    rw [hl.out] at n40 n0
    go_enter Try.func61, Try.ntmps61
    go_wp2_with fail
    go_loopw [6, 7] (fun v i wr => ∃ k : Nat, k ≤ n ∧ i = .int .i64 k ∧ Below w.heap.size w wr ∧ ∃ A' c', v = .slice A' k c' ∧ wr.ownsRow w.heap.size 3 1 (.slice A' k c') k (intCells (appTo t l k))) (fun _ i _ => n - (intOf i).toNat)
    case atStart => exact ⟨0, Nat.zero_le _, rfl, below_box w _, _, _, rfl, own_empty w _ _ _ (Nat.le_refl _)⟩
    case round =>
      obtain ⟨k, hk, rfl, hb, A', c', rfl, ho⟩ := hrel
      have hrk := hr.below hb
      by_cases hlt : k < n
      · obtain ⟨s1, s2⟩ := shareAt_ok OK.out (k := k) (by rw [hl.out]; omega)
        obtain ⟨s3, s4⟩ := shareAt_ok OK.out (k := k + 1) (by rw [hl.out]; omega)
        have b1 := shareI_bd H1.out ht.1 ht.2 k (by rw [hl.out]; omega)
        have b2 := shareI_bd H1.out ht.1 ht.2 (k + 1) (by rw [hl.out]; omega)
        have S1 := Lib.hid s1; have S2 := Lib.hid s2; have S3 := Lib.hid s3; have S4 := Lib.hid s4
        have e1 : ((k : Int) + 1) = ((k + 1 : Nat) : Int) := by omega
        have E1 := Lib.hid e1
        clear s1 s2 s3 s4 e1
        go_wp2_with fail
        refine (specShareTo _ _ _ _ l _ _ hrk hn hc).mono ?_; rw [S1.out, S2.out]; rintro e w' ⟨rfl, rfl⟩
        go_wp2_with fail
        rw [E1.out]
        refine (specShareTo _ _ _ _ l _ _ hrk hn hc).mono ?_; rw [S3.out, S4.out]; rintro e w' ⟨rfl, rfl⟩
        go_wp2_with (at_builtin; refine wpList_app _ rfl _ _ _ rfl w.heap.size 3 i0 _ 1 8 Try.underlying47 hi hz0 hz1 hz2 rfl (by omega) _ k (intCells (appTo t l k)) rfl (ho.alloc _) _ 1 1 (intCells [shareI t l (k + 1) - shareI t l k]) rfl (RS_new (by simp)) (intCells_one _) (by unfold maxLen; omega) (by omega) (by have := hb.size; simp; omega) ?_; intro A2 c2 w2 ho2 _ _ hb2)
        go_roundw
        case rel =>
          rw [← List.map_append, ← appTo_succ] at ho2
          exact ⟨k + 1, by omega, by go_num, (hb.alloc hb.size _).trans hb2, A2, c2, rfl, ho2⟩
        case measure => simp [intOf]; omega
      · obtain rfl : n = k := by omega
        go_wp2_with fail
        go_ret2
        exact ⟨A', c', by rw [appTo_len]; rfl, by rw [appTo_len]; exact ho, hb⟩
end Go.Proofs.Ytknfhiepndffpaa
