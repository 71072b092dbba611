/- Bill lines: the walks of the laws' helpers: size, copy, equality. No condition. -/
import Derived.Test.YtnhkpdaogclfjaaForce
namespace Go.Proofs.Ytnhkpdaogclfjaa
open Go.ChangeShapes Go.WideShapes Go.ChangeAt Go.RowKit Go.Deep

def blSz (d : Bl) : Int := (d.par.size : Int) + (d.part.size : Int) + (d.cond.length + sumF cnSz d.cond d.cond.length)
theorem blSz_nonneg (d : Bl) : 0 ≤ blSz d := by
  unfold blSz
  have := sumF_nonneg (f := cnSz) (l := d.cond) (fun y _ => cnSz_nonneg y) d.cond.length
  omega
theorem sumF_memB {α : Type} {f : α → Int} {l : List α} (h : ∀ x ∈ l, 0 ≤ f x) {x : α} (hx : x ∈ l) : f x ≤ sumF f l l.length := by
  obtain ⟨k, hk, rfl⟩ := List.getElem_of_mem hx
  have hg : l[k]? = some l[k] := List.getElem?_eq_getElem hk
  have h1 := sumF_mono h (show k + 1 ≤ l.length by omega) (Nat.le_refl _)
  rw [sumF_succ f hg] at h1
  have := sumF_nonneg h k
  omega
theorem bills_small {l : List Bl} {n : Nat} (hl : l.length = n) (hs : sumF blSz l n ≤ 1048576) : ∀ d ∈ l, d.cond.length ≤ 1048576 := by
  intro d hd
  have h1 := sumF_memB (f := blSz) (l := l) (fun x _ => blSz_nonneg x) hd
  rw [hl] at h1
  have h2 := sumF_nonneg (f := cnSz) (l := d.cond) (fun y _ => cnSz_nonneg y) d.cond.length
  have h3 : blSz d = (d.par.size : Int) + (d.part.size : Int) + (d.cond.length + sumF cnSz d.cond d.cond.length) := rfl
  omega
set_option maxHeartbeats 2000000 in
theorem szBillLine_any (x : Bl) (A : Option Addr) (n c : Nat) (left : Int) (w : World) (hr : RS w 3 A n (x.cond.flatMap cnCell)) (hn : n ≤ 9223372036854775807) (hok : billOk x) (h0 : 0 ≤ left) (h1 : left ≤ 1048576) :
    Calls Try.prog 39 #[blAgg ⟨x.par, x.part, x.qty, x.fr, x.un, A, n, c⟩, .int .i64 left] w fun e w' => e = .returned (.int .i64 (szRes left (blSz x))) ∧ Below w.heap.size w w' := by
  obtain ⟨par, part, qty, fr, un, l⟩ := x
  obtain ⟨s1, s2, -, -, -, -, hok⟩ := hok
  simp only at hr hok s1 s2 ⊢
  have hl := hr.flatLen cnCell_len (by omega)
  have E := Lib.hid (show blSz ⟨par, part, qty, fr, un, l⟩ = (par.size : Int) + part.size + (n + sumF cnSz l n) by simp only [blSz]; rw [hl])
  have OK := Lib.hid hok
  have nn := sumF_nonneg (f := cnSz) (l := l) (fun y _ => cnSz_nonneg y) n
  clear hl hok
  rw [E.out]
  obtain ⟨t, ht⟩ : ∃ t, (n : Int) + sumF cnSz l n = t := ⟨_, rfl⟩
  rw [ht]
  have t0 : 0 ≤ t := by omega
  have HT := Lib.hid ht
  clear ht nn
  have bx := below_box w (Obj.cells #[.string par, .string part, .int .i64 qty, .int .i64 fr, .int .i64 un, .slice A n c] 72)
  by_cases g1 : left - par.size < 0
  · have R := Lib.hid (szRes_no (left := left) (tot := (par.size : Int) + part.size + t) (by omega))
    go_enter Try.func39, Try.ntmps39
    go_wp2_with fail
    go_ret
    exact ⟨ret_int R.out.symm, bx⟩
  by_cases g2 : left - par.size - part.size < 0
  · have R := Lib.hid (szRes_no (left := left) (tot := (par.size : Int) + part.size + t) (by omega))
    go_enter Try.func39, Try.ntmps39
    go_wp2_with fail
    go_ret
    exact ⟨ret_int R.out.symm, bx⟩
  by_cases hs : left - par.size - part.size < t
  · have R := Lib.hid (szRes_no (left := left) (tot := (par.size : Int) + part.size + t) (by omega))
    have R2 := Lib.hid (szRes_no hs)
    go_enter Try.func39, Try.ntmps39
    go_wp2_with fail
    refine (szCondNodeS_any _ _ _ l _ _ (hr.alloc _) hn OK.out (by omega) (by omega)).mono ?_; rw [HT.out, R2.out]; rintro e w1 ⟨rfl, hb1⟩
    go_wp2_with fail
    go_ret
    exact ⟨ret_int R.out.symm, below_then bx hb1⟩
  · have R := Lib.hid (show szRes left ((par.size : Int) + part.size + t) = left - par.size - part.size - t by rw [szRes_yes (by omega)]; omega)
    have R2 := Lib.hid (szRes_yes (Int.not_lt.1 hs))
    go_enter Try.func39, Try.ntmps39
    go_wp2_with fail
    refine (szCondNodeS_any _ _ _ l _ _ (hr.alloc _) hn OK.out (by omega) (by omega)).mono ?_; rw [HT.out, R2.out]; rintro e w1 ⟨rfl, hb1⟩
    go_wp2_with fail
    go_ret
    exact ⟨ret_int R.out.symm, below_then bx hb1⟩
set_option maxHeartbeats 2000000 in
theorem szBillLineS_any (A : Option Addr) (n c : Nat) (l : List Bl) (left : Int) (w : World) (hr : BillsR w A n l) (hn : n ≤ 9223372036854775807) (hok : ∀ x ∈ l, billOk x) (h0 : 0 ≤ left) (h1 : left ≤ 1048576) :
    Calls Try.prog 14 #[.slice A n c, .int .i64 left] w fun e w' => e = .returned (.int .i64 (szRes left (n + sumF blSz l n))) ∧ Below w.heap.size w w' := by
  have hl := Lib.hid hr.len
  have NN := Lib.hid (fun k => sumF_nonneg (f := blSz) (l := l) (fun x _ => blSz_nonneg x) k)
  have MO := Lib.hid (fun k (hk : k ≤ n) => sumF_mono (f := blSz) (l := l) (fun x _ => blSz_nonneg x) hk (by rw [hl.out]; exact Nat.le_refl _))
  have OK := Lib.hid hok; clear hok
  by_cases hln : left - n < 0
  · have e0 := Lib.hid (show szRes left (n + sumF blSz l n) = -1 by rw [szRes_no (by have := NN.out n; omega)])
    go_enter Try.func14, Try.ntmps14
    go_wp2_with fail
    go_ret
    exact ⟨ret_int (by rw [e0.out]), Below.refl _ _⟩
  · go_enter Try.func14, Try.ntmps14
    go_wp2_with fail
    go_loopw [1, 5] (fun t i wr => ∃ k : Nat, k ≤ n ∧ i = .int .i64 k ∧ t = .int .i64 (left - n - sumF blSz l k) ∧ 0 ≤ left - n - sumF blSz l k ∧ Below w.heap.size w wr) (fun _ i _ => n - (intOf i).toNat)
    case atStart => exact ⟨0, Nat.zero_le _, rfl, by rw [sumF_zero]; simp, by rw [sumF_zero]; omega, Below.refl _ _⟩
    case round =>
      obtain ⟨k, hk, rfl, rfl, hge, hb⟩ := hrel
      have nn := NN.out k
      by_cases hlt : k < n
      · obtain ⟨g, off, rfl, ⟨par, part, qty, fr, un, cond⟩, eA, en, ec, hx, c0, c1, c2, c3, c4, c5, hre⟩ := (hr.below hb).blAt hlt
        have hs := Lib.hid (OK.out _ (List.mem_of_getElem? hx))
        have HS := Lib.hid (sumF_succ blSz hx)
        have mo := MO.out (k + 1) (by omega)
        rw [HS.out] at mo
        have sn := blSz_nonneg ⟨par, part, qty, fr, un, cond⟩
        have el := Lib.hid (hre.flatLen cnCell_len (by omega))
        have en64 : en ≤ 9223372036854775807 := by have := hs.out.2.2.2.2.2.1; simp only at this; rw [el.out] at this; exact this
        simp only at c0 c1 c2 c3 c4
        have i1 : (0 : Int) ≤ k := by omega
        have i2 : (k : Int) < n := by omega
        clear hx
        by_cases hneg : left - n - sumF blSz l k - blSz ⟨par, part, qty, fr, un, cond⟩ < 0
        · have e0 := Lib.hid (show szRes left (n + sumF blSz l n) = -1 by rw [szRes_no (by omega)])
          go_wp2_with fail
          refine (szBillLine_any ⟨par, part, qty, fr, un, cond⟩ _ _ _ _ _ hre en64 hs.out hge (by omega)).mono ?_; rw [szRes_no (by omega)]; rintro e w1 ⟨rfl, hb1⟩
          go_wp2_with fail
          go_ret
          exact ⟨ret_int (by rw [e0.out]), below_app hb hb1 hb.size⟩
        · go_wp2_with fail
          refine (szBillLine_any ⟨par, part, qty, fr, un, cond⟩ _ _ _ _ _ hre en64 hs.out hge (by omega)).mono ?_; rw [szRes_yes (by omega)]; rintro e w1 ⟨rfl, hb1⟩
          go_wp2_with fail
          go_roundw
          case rel => exact ⟨k + 1, by omega, by go_num, by rw [HS.out]; go_num, by rw [HS.out]; omega, below_app hb hb1 hb.size⟩
          case measure => simp [intOf]; omega
      · obtain rfl : n = k := by omega
        have e0 := Lib.hid (show szRes left (n + sumF blSz l n) = left - n - sumF blSz l n by rw [szRes_yes (by omega)]; omega)
        go_wp2_with fail
        go_ret
        exact ⟨ret_int (by rw [e0.out]), hb⟩
set_option maxHeartbeats 2000000 in
theorem eqBillLine_true (x : Bl) (A : Option Addr) (n c : Nat) (A' : Option Addr) (n' c' : Nat) (w : World) (hr : RS w 3 A n (x.cond.flatMap cnCell)) (hr' : RS w 3 A' n' (x.cond.flatMap cnCell)) (hn : n ≤ 9223372036854775807) (hn' : n' ≤ 9223372036854775807) :
    Calls Try.prog 52 #[blAgg ⟨x.par, x.part, x.qty, x.fr, x.un, A, n, c⟩, blAgg ⟨x.par, x.part, x.qty, x.fr, x.un, A', n', c'⟩] w fun e w' => e = .returned (.bool true) ∧ Below w.heap.size w w' := by
  go_enter Try.func52, Try.ntmps52
  go_wp2_with fail
  refine (eqCondNodeS_true _ _ _ x.cond _ _ _ x.cond _ ((hr.alloc _).alloc _) ((hr'.alloc _).alloc _) hn hn' rfl).mono ?_; rintro e w1 ⟨rfl, hb1⟩
  go_wp2_with fail
  go_ret
  exact ⟨rfl, below_then (below_then (below_box w _) (below_box _ _)) hb1⟩
set_option maxHeartbeats 2000000 in
theorem eqBillLineS_true (A : Option Addr) (n c : Nat) (l : List Bl) (A' : Option Addr) (n' c' : Nat) (w : World) (hr : BillsR w A n l) (hr' : BillsR w A' n' l) (hn : n ≤ 9223372036854775807) (hok : ∀ d ∈ l, d.cond.length ≤ 9223372036854775807) :
    Calls Try.prog 20 #[.slice A n c, .slice A' n' c'] w fun e w' => e = .returned (.bool true) ∧ Below w.heap.size w w' := by
  have hl := hr.len
  have hl' := hr'.len
  obtain rfl : n = n' := by rw [← hl, ← hl']
  have OK := Lib.hid hok; clear hl hl' hok
  go_enter Try.func20, Try.ntmps20
  go_wp2
  go_loopw [5] (fun i wr => ∃ k : Nat, k ≤ n ∧ i = .int .i64 k ∧ Below w.heap.size w wr) (fun i _ => n - (intOf i).toNat)
  case atStart => exact ⟨0, Nat.zero_le _, rfl, Below.refl _ _⟩
  case round =>
    obtain ⟨k, hk, rfl, hb⟩ := hrel
    by_cases hlt : k < n
    · obtain ⟨g, off, rfl, x, eA, en, ec, hx, a0, a1, a2, a3, a4, a5, hre⟩ := (hr.below hb).blAt hlt
      obtain ⟨g', off', rfl, x', eA', en', ec', hx', b0, b1, b2, b3, b4, b5, hre'⟩ := (hr'.below hb).blAt hlt
      have hle := OK.out x (List.mem_of_getElem? hx)
      rw [hx'] at hx
      obtain rfl : x' = x := by simpa using hx
      clear hx hx'
      obtain ⟨par, part, qty, fr, un, cond⟩ := x'
      simp only at a0 a1 a2 a3 a4 hre b0 b1 b2 b3 b4 hre' hle
      have z1 := hre.flatLen cnCell_len (by omega)
      have z2 := hre'.flatLen cnCell_len (by omega)
      have n1 : en ≤ 9223372036854775807 := by omega
      have n2 : en' ≤ 9223372036854775807 := by omega
      have i1 : (0 : Int) ≤ k := by omega
      have i2 : (k : Int) < n := by omega
      have a0 := cell_wext a0; have a1 := cell_wext a1; have a2 := cell_wext a2; have a3 := cell_wext a3; have a4 := cell_wext a4; have a5 := cell_wext a5
      have b0 := cell_wext b0; have b1 := cell_wext b1; have b2 := cell_wext b2; have b3 := cell_wext b3; have b4 := cell_wext b4; have b5 := cell_wext b5
      clear z1 z2
      go_wp2
      refine wp_region_ext (by kernel_rfl) (by kernel_rfl) ?_
      repeat (go_big_quiet_step ((go_at_call 52; exact ext_call (eqBillLine_true ⟨par, part, qty, fr, un, cond⟩ _ _ _ _ _ _ _ (hre.wext _) (hre'.wext _) n1 n2))))
      refine wpQuiet_nil ?_
      intro _ hw'; obtain ⟨nq, hw''⟩ := hw'; subst hw''
      go_wp2
      go_roundw
      case rel => exact ⟨k + 1, by omega, by go_num, below_app hb (below_wext _ _) hb.size⟩
      case measure => simp [intOf]; omega
    · go_wp2
      have : k = n := by omega
      subst this
      go_ret
      exact ⟨rfl, hb⟩
set_option maxHeartbeats 2000000 in
theorem toBillLine_any (x : Bl) (A : Option Addr) (n c : Nat) (w : World) (hr : RS w 3 A n (x.cond.flatMap cnCell)) (hn : n ≤ 1048576) :
    Calls Try.prog 47 #[blAgg ⟨x.par, x.part, x.qty, x.fr, x.un, A, n, c⟩] w fun e w' => ∃ A' c', e = .returned (blAgg ⟨x.par, x.part, x.qty, x.fr, x.un, A', n, c'⟩) ∧ w'.ownsRow w.heap.size 126 3 (.slice A' n c') n (x.cond.flatMap cnCell) ∧ Below w.heap.size w w' := by
  obtain ⟨par, part, qty, fr, un, cond⟩ := x
  simp only at hr ⊢
  go_enter Try.func47, Try.ntmps47
  go_wp2_with fail
  refine (toCondNodeS_any _ _ _ cond _ (((hr.alloc _).alloc _).alloc _) hn).mono ?_; rintro e w1 ⟨A1, c1, rfl, o1, hb1⟩
  have R := Lib.hid (blk_keep hb1 (blk_alloc (blk_new2 w _ _) _))
  have O := Lib.hid (blk_keep hb1 (blk_new3 w _ _ _))
  have r0 := blk_at R.out (j := 0) rfl; have r1 := blk_at R.out (j := 1) rfl; have r2 := blk_at R.out (j := 2) rfl; have r3 := blk_at R.out (j := 3) rfl; have r4 := blk_at R.out (j := 4) rfl; have r5 := blk_at R.out (j := 5) rfl; have rf := blk_free R.out
  have o0' := blk_at O.out (j := 0) rfl; have o1' := blk_at O.out (j := 1) rfl; have o2' := blk_at O.out (j := 2) rfl; have o3' := blk_at O.out (j := 3) rfl; have o4' := blk_at O.out (j := 4) rfl; have o5' := blk_at O.out (j := 5) rfl; have of := blk_free O.out
  have b1 := Lib.hid (below_then (below_then (below_then (below_box w _) (below_box _ _)) (below_box _ _)) hb1)
  simp only [World.size_alloc] at o1
  clear hb1
  go_wp2_with fail
  refine bodyPost_ret (v := blAgg ⟨par, part, qty, fr, un, A1, n, c1⟩) (by simp [results, Try.results47, go_sem, r0, r1, r2, r3, r4, r5]) rfl ⟨A1, c1, rfl, ?_, ?_⟩
  · refine own_base ?_ (show w.heap.size ≤ w.heap.size + 1 + 1 + 1 by omega)
    repeat (refine own_setlow ?_ (by simp only; omega) _)
    exact o1
  · repeat (refine Below.setCell ?_ (by simp only; omega) _)
    exact b1.out
set_option maxHeartbeats 4000000 in
theorem toBillLineS_any (A : Option Addr) (n c : Nat) (l : List Bl) (w : World) (hr : BillsR w A n l) (hn : n ≤ 1048576) (hle : ∀ d ∈ l, d.cond.length ≤ 1048576) :
    Calls Try.prog 17 #[.slice A n c] w fun e w' => ∃ A' c', e = .returned (.slice A' n c') ∧ LinesO w' w.heap.size A' n c' l ∧ Below w.heap.size w w' := by
  have hl := Lib.hid hr.len
  have LE := Lib.hid hle; clear hle
  obtain ⟨i0, hi, hz0, hz1, hz2⟩ := info_parts blInfo
  go_enter Try.func17, Try.ntmps17
  go_wp2_with (at_make; refine wpList_make_full _ rfl _ _ _ rfl w.heap.size 82 i0 _ 6 Try.underlying40 hi hz0 hz1 _ _ _ _ n rfl rfl rfl rfl (by rw [hz2]; omega) (by unfold maxLen; omega) (Nat.le_refl _) ?_; intro w1 hown1 hg1)
  have hb1 : Below w.heap.size w w1 := ⟨hg1.os, hg1.tape, hg1.output, hg1.size, fun k hk => hg1.block k hk (by simp)⟩
  clear hg1
  go_loopw [4] (fun i wr => ∃ (k : Nat) (vs : List BV), k ≤ n ∧ i = .int .i64 k ∧ Below w.heap.size w wr ∧ vs.length = k ∧ ∃ xs, wr.ownsRow w.heap.size 82 6 (.slice (some ⟨w.heap.size, 0, none⟩) n n) n xs ∧ Hid (xs.take (k * 6) = vs.flatMap blCell) ∧
      Hid (∀ (i : Nat) (x : BV) (d : Bl), vs[i]? = some x → l[i]? = some d → SameFlat x d ∧ wr.ownsRow w.heap.size 126 3 (bvRow x) x.en (d.cond.flatMap cnCell))) (fun i _ => n - (intOf i).toNat)
  case atStart => exact ⟨0, [], Nat.zero_le _, rfl, hb1, rfl, _, hown1, by simp [Hid], fun i x d h => absurd h (by simp)⟩
  case round =>
    obtain ⟨k, vs, hk, rfl, hb, hvl, xs, hown, htk, hin⟩ := hrel
    clear hb1 hown1
    by_cases hlt : k < n
    · obtain ⟨g, off, rfl, ⟨par, part, qty, fr, un, cond⟩, eA, en, ec, hx, h0, h1, h2, h3, h4, h5, hre⟩ := (hr.below hb).blAt hlt
      have hle := LE.out _ (List.mem_of_getElem? hx)
      have el := hre.flatLen cnCell_len (by omega)
      simp only at h0 h1 h2 h3 h4 h5 hre hle el
      have en1 : en ≤ 1048576 := by omega
      have HX := Lib.hid hx; have HV := Lib.hid hvl; clear hx el hvl
      go_wp2_with (go_at_call 47; refine (toBillLine_any ⟨par, part, qty, fr, un, cond⟩ _ _ _ _ hre en1).mono ?_; rintro e w2 ⟨A2, c2, rfl, o2, hb2⟩; have hown2 := own_below hown hb2; obtain ⟨d0, hd0⟩ := own_cells hown2 (j := k * 6) (by omega); obtain ⟨d1, hd1⟩ := own_cells hown2 (j := k * 6 + 1) (by omega); obtain ⟨d2, hd2⟩ := own_cells hown2 (j := k * 6 + 2) (by omega); obtain ⟨d3, hd3⟩ := own_cells hown2 (j := k * 6 + 3) (by omega); obtain ⟨d4, hd4⟩ := own_cells hown2 (j := k * 6 + 4) (by omega); obtain ⟨d5, hd5⟩ := own_cells hown2 (j := k * 6 + 5) (by omega); have hf := fun j => hown2.frozenAt j)
      go_roundw
      case rel =>
        obtain ⟨y0, p0, t0⟩ := own_fill (.string par) hown2 htk.out rfl (by omega)
        obtain ⟨y1, p1, t1⟩ := own_fill (.string part) p0 t0 rfl (by omega)
        obtain ⟨y2, p2, t2⟩ := own_fill (.int .i64 qty) p1 t1 rfl (by omega)
        obtain ⟨y3, p3, t3⟩ := own_fill (.int .i64 fr) p2 t2 rfl (by omega)
        obtain ⟨y4, p4, t4⟩ := own_fill (.int .i64 un) p3 t3 rfl (by omega)
        obtain ⟨y5, p5, t5⟩ := own_fill (.slice A2 en c2) p4 t4 rfl (by omega)
        have zz := hb2.size
        have kp : ∀ (v : Value) (m : Nat) (ys : List Value), w2.ownsRow w.heap.size 126 3 v m ys → ((((((w2.setCell ⟨w.heap.size, k * 6, none⟩ (.string par)).setCell ⟨w.heap.size, k * 6 + 1, none⟩ (.string part)).setCell ⟨w.heap.size, k * 6 + 2, none⟩ (.int .i64 qty)).setCell ⟨w.heap.size, k * 6 + 3, none⟩ (.int .i64 fr)).setCell ⟨w.heap.size, k * 6 + 4, none⟩ (.int .i64 un)).setCell ⟨w.heap.size, k * 6 + 5, none⟩ (.slice A2 en c2)).ownsRow w.heap.size 126 3 v m ys := fun v m ys h => by
          have s0 := own_grown h (grown_set w2 ⟨w.heap.size, k * 6, none⟩ (.string par)) (own_types h hown2 (by decide))
          have s1 := own_grown s0 (grown_set _ ⟨w.heap.size, k * 6 + 1, none⟩ (.string part)) (own_types s0 p0 (by decide))
          have s2 := own_grown s1 (grown_set _ ⟨w.heap.size, k * 6 + 2, none⟩ (.int .i64 qty)) (own_types s1 p1 (by decide))
          have s3 := own_grown s2 (grown_set _ ⟨w.heap.size, k * 6 + 3, none⟩ (.int .i64 fr)) (own_types s2 p2 (by decide))
          have s4 := own_grown s3 (grown_set _ ⟨w.heap.size, k * 6 + 4, none⟩ (.int .i64 un)) (own_types s3 p3 (by decide))
          exact own_grown s4 (grown_set _ ⟨w.heap.size, k * 6 + 5, none⟩ (.slice A2 en c2)) (own_types s4 p4 (by decide))
        refine ⟨k + 1, vs ++ [⟨par, part, qty, fr, un, A2, en, c2⟩], by omega, by go_num, ((((((below_app hb hb2 hb.size).setCell (Nat.le_refl _) _).setCell (Nat.le_refl _) _).setCell (Nat.le_refl _) _).setCell (Nat.le_refl _) _).setCell (Nat.le_refl _) _).setCell (Nat.le_refl _) _, by simp [HV.out], y5, p5, ?_, ?_⟩
        · show y5.take ((k + 1) * 6) = _
          rw [show (k + 1) * 6 = k * 6 + 1 + 1 + 1 + 1 + 1 + 1 by omega, t5, flat_append]
          simp [blCell]
        · intro i x d hxi hdi
          rcases Nat.lt_or_ge i k with hik | hik
          · rw [List.getElem?_append_left (by rw [HV.out]; exact hik)] at hxi
            obtain ⟨a, o⟩ := hin.out i x d hxi hdi
            exact ⟨a, kp _ _ _ (own_below o hb2)⟩
          · have hik' : i = k := by
              have := (List.getElem?_eq_some_iff.1 hxi).1
              simp [HV.out] at this; omega
            subst hik'
            rw [List.getElem?_append_right (by rw [HV.out]; exact Nat.le_refl _), HV.out, Nat.sub_self] at hxi
            simp at hxi
            rw [HX.out] at hdi
            injection hdi with hdi
            subst hxi hdi
            exact ⟨⟨rfl, rfl, rfl, rfl, rfl⟩, kp _ _ _ (own_base o2 hb.size)⟩
      case measure => simp [intOf]; omega
    · go_wp2
      have : k = n := by omega
      subst this
      go_ret
      refine ⟨_, _, rfl, ⟨vs, ?_, ?_, hin.out⟩, hb⟩
      · rw [take_all htk.out (own_len hown)] at hown
        exact hown
      · rw [hvl, hl.out]
end Go.Proofs.Ytnhkpdaogclfjaa
