/- Use: a flat struct, and slices of it: the plain words and the walks of the laws' helpers. -/
import Derived.Test.YtaldlinekipblaaFlat
import Derived.Laws.Rows
namespace Go.Proofs.Ytaldlinekipblaa
open Go.ChangeShapes Go.WideShapes Go.ChangeAt Go.RowKit Go.Deep

structure Us where
  frm : ByteArray
  into : ByteArray
  q : Int
abbrev usAgg (x : Us) : Value := .agg #[.string x.frm, .string x.into, .int .i64 x.q]
def usCell (x : Us) : List Value := [.string x.frm, .string x.into, .int .i64 x.q]
def usOk (x : Us) : Prop := x.frm.size ≤ 9223372036854775807 ∧ x.into.size ≤ 9223372036854775807 ∧ i64 x.q
theorem usCell_len : ∀ y, (usCell y).length = 3 := fun _ => rfl
theorem usCell_one : ∀ x, ∀ u ∈ usCell x, u.oneCell' = true := by
  intro x u hu
  simp only [usCell, List.mem_cons, List.not_mem_nil, or_false] at hu
  rcases hu with rfl | rfl | rfl <;> rfl
theorem RS.usAt {w : World} {A : Option Addr} {n k : Nat} {l : List Us} (h : RS w 3 A n (l.flatMap usCell)) (hk : k < n) :
    ∃ g off, A = some ⟨g, off, none⟩ ∧ ∃ y, l[k]? = some y ∧ w.cell? ⟨g, off + k * 3, none⟩ = some (.string y.frm) ∧ w.cell? ⟨g, off + k * 3 + 1, none⟩ = some (.string y.into) ∧ w.cell? ⟨g, off + k * 3 + 2, none⟩ = some (.int .i64 y.q) := by
  obtain ⟨g, off, e, y, hy, hc⟩ := h.flatAt usCell_len (by omega) hk
  exact ⟨g, off, e, y, hy, hc 0 (by omega), hc 1 (by omega), hc 2 (by omega)⟩
theorem usInfo : (Try.prog.info? 56).map (fun i => (i.zero, i.size, i.bytes)) = some (some (.agg #[.string ⟨#[]⟩, .string ⟨#[]⟩, .int .i64 0]), 3, 40) := by kernel_rfl
def usSz (x : Us) : Int := (x.frm.size : Int) + (x.into.size : Int)
theorem usSz_nonneg (x : Us) : 0 ≤ usSz x := by unfold usSz; omega
set_option maxHeartbeats 1000000 in
theorem szUse_any (x : Us) (left : Int) (w : World) (h0 : 0 ≤ left) (h1 : left ≤ 1048576) (hs : usOk x) :
    Calls Try.prog 33 #[usAgg x, .int .i64 left] w fun e' w' => e' = .returned (.int .i64 (szRes left (usSz x))) ∧ Below w.heap.size w w' := by
  obtain ⟨frm, into, q⟩ := x
  simp only [usOk] at hs
  simp only [usSz]
  have hs' : frm.size ≤ 9223372036854775807 ∧ into.size ≤ 9223372036854775807 := by omega
  clear hs
  obtain ⟨z0, z1⟩ := hs'
  by_cases g0 : left - frm.size < 0
  · have e0 := Lib.hid (show szRes left ((frm.size : Int) + (into.size : Int)) = -1 by rw [szRes_no (by omega)])
    go_enter Try.func33, Try.ntmps33
    go_wp2
    go_ret
    exact ⟨ret_int (by rw [e0.out]), by go_grown⟩
  ·
    by_cases g1 : left - frm.size - into.size < 0
    · have e0 := Lib.hid (show szRes left ((frm.size : Int) + (into.size : Int)) = -1 by rw [szRes_no (by omega)])
      go_enter Try.func33, Try.ntmps33
      go_wp2
      go_ret
      exact ⟨ret_int (by rw [e0.out]), by go_grown⟩
    · have e0 := Lib.hid (show szRes left ((frm.size : Int) + (into.size : Int)) = left - frm.size - into.size by rw [szRes_yes (by omega)]; try omega)
      go_enter Try.func33, Try.ntmps33
      go_wp2
      go_ret
      exact ⟨ret_int (by rw [e0.out]), by go_grown⟩
set_option maxHeartbeats 1000000 in
theorem szUseS_any (A : Option Addr) (n c : Nat) (l : List Us) (left : Int) (w : World) (hr : RS w 3 A n (l.flatMap usCell)) (hn : n ≤ 9223372036854775807) (hok : ∀ x ∈ l, usOk x) (h0 : 0 ≤ left) (h1 : left ≤ 1048576) :
    Calls Try.prog 8 #[.slice A n c, .int .i64 left] w fun e w' => e = .returned (.int .i64 (szRes left (n + sumF usSz l n))) ∧ Below w.heap.size w w' := by
  have hl := Lib.hid (hr.flatLen usCell_len (by omega))
  have NN := Lib.hid (fun k => sumF_nonneg (f := usSz) (l := l) (fun x _ => usSz_nonneg x) k)
  have MO := Lib.hid (fun k (hk : k ≤ n) => sumF_mono (f := usSz) (l := l) (fun x _ => usSz_nonneg x) hk (by rw [hl.out]; exact Nat.le_refl _))
  have OK := Lib.hid hok; clear hok
  by_cases hln : left - n < 0
  · have e0 := Lib.hid (show szRes left (n + sumF usSz l n) = -1 by rw [szRes_no (by have := NN.out n; omega)])
    go_enter Try.func8, Try.ntmps8
    go_wp2_with fail
    go_ret
    exact ⟨ret_int (by rw [e0.out]), Below.refl _ _⟩
  · go_enter Try.func8, Try.ntmps8
    go_wp2_with fail
    go_loopw [1, 5] (fun t i wr => ∃ k : Nat, k ≤ n ∧ i = .int .i64 k ∧ t = .int .i64 (left - n - sumF usSz l k) ∧ 0 ≤ left - n - sumF usSz l k ∧ Below w.heap.size w wr) (fun _ i _ => n - (intOf i).toNat)
    case atStart => exact ⟨0, Nat.zero_le _, rfl, by rw [sumF_zero]; simp, by rw [sumF_zero]; omega, Below.refl _ _⟩
    case round =>
      obtain ⟨k, hk, rfl, rfl, hge, hb⟩ := hrel
      have nn := NN.out k
      by_cases hlt : k < n
      · obtain ⟨g, off, rfl, ⟨frm, into, q⟩, hx, hus0, hus1, hus2⟩ := (hr.below hb).usAt hlt
        have hs := Lib.hid (OK.out _ (List.mem_of_getElem? hx))
        have HS := Lib.hid (sumF_succ usSz hx)
        have mo := MO.out (k + 1) (by omega)
        rw [HS.out] at mo
        have sn := usSz_nonneg ⟨frm, into, q⟩
        have i1 : (0 : Int) ≤ k := by omega
        have i2 : (k : Int) < n := by omega
        clear hx
        by_cases hneg : left - n - sumF usSz l k - usSz ⟨frm, into, q⟩ < 0
        · have e0 := Lib.hid (show szRes left (n + sumF usSz l n) = -1 by rw [szRes_no (by omega)])
          go_wp2_with fail
          refine (szUse_any ⟨frm, into, q⟩ _ _ hge (by omega) hs.out).mono ?_; rw [szRes_no (by omega)]; rintro e w1 ⟨rfl, hb1⟩
          go_wp2_with fail
          go_ret
          exact ⟨ret_int (by rw [e0.out]), below_app hb hb1 hb.size⟩
        · go_wp2_with fail
          refine (szUse_any ⟨frm, into, q⟩ _ _ hge (by omega) hs.out).mono ?_; rw [szRes_yes (by omega)]; rintro e w1 ⟨rfl, hb1⟩
          go_wp2_with fail
          go_roundw
          case rel => exact ⟨k + 1, by omega, by go_num, by rw [HS.out]; go_num, by rw [HS.out]; omega, below_app hb hb1 hb.size⟩
          case measure => simp [intOf]; omega
      · obtain rfl : n = k := by omega
        have e0 := Lib.hid (show szRes left (n + sumF usSz l n) = left - n - sumF usSz l n by rw [szRes_yes (by omega)]; omega)
        go_wp2_with fail
        go_ret
        exact ⟨ret_int (by rw [e0.out]), hb⟩
theorem toUse_any (x : Us) (w : World) : Calls Try.prog 36 #[usAgg x] w fun e' w' => e' = .returned (usAgg x) ∧ Below w.heap.size w w' := by
  obtain ⟨frm, into, q⟩ := x
  go_enter Try.func36, Try.ntmps36
  go_wp2
  go_returns
  exact ⟨rfl, by go_grown⟩
theorem eqUse_true (x : Us) (w : World) : Calls Try.prog 40 #[usAgg x, usAgg x] w fun e' w' => e' = .returned (.bool true) ∧ Below w.heap.size w w' := by
  obtain ⟨frm, into, q⟩ := x
  go_enter Try.func40, Try.ntmps40
  go_wp2
  go_ret
  exact ⟨rfl, by go_grown⟩
set_option maxHeartbeats 1000000 in
theorem toUseS_any (A : Option Addr) (n c : Nat) (l : List Us) (w : World) (hr : RS w 3 A n (l.flatMap usCell)) (hn : n ≤ 1048576) :
    Calls Try.prog 10 #[.slice A n c] w fun e w' => ∃ A' c', e = .returned (.slice A' n c') ∧ w'.ownsRow w.heap.size 56 3 (.slice A' n c') n (l.flatMap usCell) ∧ Below w.heap.size w w' := by
  have hl := Lib.hid (hr.flatLen usCell_len (by omega))
  obtain ⟨i0, hi, hz0, hz1, hz2⟩ := info_parts usInfo
  go_enter Try.func10, Try.ntmps10
  go_wp2_with (at_make; refine wpList_make_full _ rfl _ _ _ rfl w.heap.size 56 i0 _ 3 Try.underlying26 hi hz0 hz1 _ _ _ _ n rfl rfl rfl rfl (by rw [hz2]; omega) (by unfold maxLen; omega) (Nat.le_refl _) ?_; intro w1 hown1 hg1)
  have hb1 : Below w.heap.size w w1 := ⟨hg1.os, hg1.tape, hg1.output, hg1.size, fun k hk => hg1.block k hk (by simp)⟩
  clear hg1
  go_loopw [4] (fun i wr => ∃ k : Nat, k ≤ n ∧ i = .int .i64 k ∧ Below w.heap.size w wr ∧ ∃ xs, wr.ownsRow w.heap.size 56 3 (.slice (some ⟨w.heap.size, 0, none⟩) n n) n xs ∧ Hid (xs.take (k * 3) = (l.take k).flatMap usCell)) (fun i _ => n - (intOf i).toNat)
  case atStart => exact ⟨0, Nat.zero_le _, rfl, hb1, _, hown1, by simp [Hid]⟩
  case round =>
    obtain ⟨k, hk, rfl, hb, xs, hown, htk⟩ := hrel
    clear hb1 hown1
    by_cases hlt : k < n
    · obtain ⟨g, off, rfl, ⟨frm, into, q⟩, hx, hus0, hus1, hus2⟩ := (hr.below hb).usAt hlt
      have HX := Lib.hid hx; clear hx
      go_wp2_with (go_at_call 36; refine (toUse_any ⟨frm, into, q⟩ _).mono ?_; rintro e w2 ⟨rfl, hb2⟩; have hown2 := own_below hown hb2; obtain ⟨d0, hd0⟩ := own_cells hown2 (j := k * 3) (by omega); obtain ⟨d1, hd1⟩ := own_cells hown2 (j := k * 3 + 1) (by omega); obtain ⟨d2, hd2⟩ := own_cells hown2 (j := k * 3 + 2) (by omega); have hf := fun j => hown2.frozenAt j)
      go_roundw
      case rel =>
        obtain ⟨y0, o0, t0⟩ := own_fill (.string frm) hown2 htk.out rfl (by omega)
        obtain ⟨y1, o1, t1⟩ := own_fill (.string into) o0 t0 rfl (by omega)
        obtain ⟨y2, o2, t2⟩ := own_fill (.int .i64 q) o1 t1 rfl (by omega)
        refine ⟨k + 1, by omega, by go_num, (((below_app hb hb2 hb.size).setCell (Nat.le_refl _) _).setCell (Nat.le_refl _) _).setCell (Nat.le_refl _) _, y2, o2, ?_⟩
        show y2.take ((k + 1) * 3) = _
        rw [show (k + 1) * 3 = k * 3 + 1 + 1 + 1 by omega, t2, take_flat HX.out]
        simp [usCell]
      case measure => simp [intOf]; omega
    · go_wp2
      have : k = n := by omega
      subst this
      go_ret
      refine ⟨_, _, rfl, ?_, hb⟩
      rw [take_all htk.out (own_len hown), List.take_of_length_le (by rw [hl.out]; exact Nat.le_refl _)] at hown
      exact hown
set_option maxHeartbeats 1000000 in
theorem eqUseS_true (A : Option Addr) (n c : Nat) (l : List Us) (A' : Option Addr) (n' c' : Nat) (l' : List Us) (w : World) (hr : RS w 3 A n (l.flatMap usCell)) (hr' : RS w 3 A' n' (l'.flatMap usCell)) (hn : n ≤ 9223372036854775807) (hn' : n' ≤ 9223372036854775807) (heq : l = l') :
    Calls Try.prog 13 #[.slice A n c, .slice A' n' c'] w fun e w' => e = .returned (.bool true) ∧ Below w.heap.size w w' := by
  have hl := hr.flatLen usCell_len (by omega)
  have hl' := hr'.flatLen usCell_len (by omega)
  obtain rfl : n = n' := by rw [← hl, ← hl', heq]
  have HE := Lib.hid heq; clear heq hl hl'
  go_enter Try.func13, Try.ntmps13
  go_wp2
  go_loopw [5] (fun i wr => ∃ k : Nat, k ≤ n ∧ i = .int .i64 k ∧ Below w.heap.size w wr) (fun i _ => n - (intOf i).toNat)
  case atStart => exact ⟨0, Nat.zero_le _, rfl, Below.refl _ _⟩
  case round =>
    obtain ⟨k, hk, rfl, hb⟩ := hrel
    by_cases hlt : k < n
    · obtain ⟨g, off, rfl, x, hx, hus0, hus1, hus2⟩ := (hr.below hb).usAt hlt
      obtain ⟨g', off', rfl, x', hx', kus0, kus1, kus2⟩ := (hr'.below hb).usAt hlt
      rw [HE.out, hx'] at hx
      obtain rfl : x' = x := by simpa using hx
      clear hx hx'
      obtain ⟨frm, into, q⟩ := x'
      have i1 : (0 : Int) ≤ k := by omega
      have i2 : (k : Int) < n := by omega
      have a0 := cell_wext hus0; have b0 := cell_wext kus0; have a1 := cell_wext hus1; have b1 := cell_wext kus1; have a2 := cell_wext hus2; have b2 := cell_wext kus2
      go_wp2
      refine wp_region_ext (by kernel_rfl) (by kernel_rfl) ?_
      repeat (go_big_quiet_step ((go_at_call 40; exact ext_call (eqUse_true ⟨frm, into, q⟩ _))))
      refine wpQuiet_nil ?_
      intro _ hw'; obtain ⟨nq, hw''⟩ := hw'; subst hw''
      go_wp2
      go_roundw
      case rel => exact ⟨k + 1, by omega, by go_num, below_app hb (below_wext _ _) hb.size⟩
      case measure => simp [intOf]; omega
    · go_wp2
      have : k = n := by omega
      subst this
      go_ret
      exact ⟨rfl, hb⟩
def usMarks (k0 : Int) (N : Nat) : List Value := marksF (fun j => [true, true, false].getD j false) 3 k0 N
theorem usMarks_0 (k0 : Int) (k : Nat) : usMarks k0 (k * 3 + 1) = usMarks k0 (k * 3) ++ [.string (mText (k0 + k * 3).toNat)] := by
  unfold usMarks
  rw [marksF_succ]
  have e1 : (k * 3) % 3 = 0 := by omega
  have e2 : k0 + ((k * 3 : Nat) : Int) = k0 + k * 3 := by simp; try omega
  rw [e1, e2]; rfl
theorem usMarks_at0 (k0 : Int) (n k : Nat) (h : k < n) : (usMarks k0 (n * 3))[k * 3 + 0]? = some (.string (mText (k0 + k * 3).toNat)) := by
  unfold usMarks
  rw [marksF_at _ _ _ (by omega)]
  have e1 : (k * 3 + 0) % 3 = 0 := by omega
  have e2 : k0 + ((k * 3 + 0 : Nat) : Int) = k0 + k * 3 := by simp; try omega
  rw [e1, e2]; rfl
theorem usMarks_1 (k0 : Int) (k : Nat) : usMarks k0 (k * 3 + 1 + 1) = usMarks k0 (k * 3 + 1) ++ [.string (mText (k0 + k * 3 + 1).toNat)] := by
  unfold usMarks
  rw [marksF_succ]
  have e1 : (k * 3 + 1) % 3 = 1 := by omega
  have e2 : k0 + ((k * 3 + 1 : Nat) : Int) = k0 + k * 3 + 1 := by simp; try omega
  rw [e1, e2]; rfl
theorem usMarks_at1 (k0 : Int) (n k : Nat) (h : k < n) : (usMarks k0 (n * 3))[k * 3 + 1]? = some (.string (mText (k0 + k * 3 + 1).toNat)) := by
  unfold usMarks
  rw [marksF_at _ _ _ (by omega)]
  have e1 : (k * 3 + 1) % 3 = 1 := by omega
  have e2 : k0 + ((k * 3 + 1 : Nat) : Int) = k0 + k * 3 + 1 := by simp; try omega
  rw [e1, e2]; rfl
theorem usMarks_2 (k0 : Int) (k : Nat) : usMarks k0 (k * 3 + 1 + 1 + 1) = usMarks k0 (k * 3 + 1 + 1) ++ [.int .i64 (k0 + k * 3 + 1 + 1)] := by
  unfold usMarks
  rw [marksF_succ]
  have e1 : (k * 3 + 1 + 1) % 3 = 2 := by omega
  have e2 : k0 + ((k * 3 + 1 + 1 : Nat) : Int) = k0 + k * 3 + 1 + 1 := by simp; try omega
  rw [e1, e2]; rfl
theorem usMarks_at2 (k0 : Int) (n k : Nat) (h : k < n) : (usMarks k0 (n * 3))[k * 3 + 2]? = some (.int .i64 (k0 + k * 3 + 1 + 1)) := by
  unfold usMarks
  rw [marksF_at _ _ _ (by omega)]
  have e1 : (k * 3 + 2) % 3 = 2 := by omega
  have e2 : k0 + ((k * 3 + 2 : Nat) : Int) = k0 + k * 3 + 1 + 1 := by simp; try omega
  rw [e1, e2]; rfl
set_option maxHeartbeats 2000000 in
theorem markUseS_any (base : Nat) (A : Option Addr) (n c : Nat) (xs : List Value) (k0 : Int) (w : World) (ho : w.ownsRow base 56 3 (.slice A n c) n xs) (hn : n ≤ 1048600) (h0 : 1 ≤ k0) (h1 : k0 ≤ 100000000) :
    Calls Try.prog 14 #[.slice A n c, .int .i64 k0] w fun e w' => e = .returned (.int .i64 (k0 + n * 3)) ∧ w'.ownsRow base 56 3 (.slice A n c) n (usMarks k0 (n * 3)) ∧ w.grownBy w' (Value.slice A n c).ownBlock := by
  go_enter Try.func14, Try.ntmps14
  go_wp2
  go_loopw [1, 5] (fun kk i wr => ∃ k : Nat, k ≤ n ∧ i = .int .i64 k ∧ kk = .int .i64 (k0 + k * 3) ∧ w.grownBy wr (Value.slice A n c).ownBlock ∧ ∃ xs, wr.ownsRow base 56 3 (.slice A n c) n xs ∧ Hid (xs.take (k * 3) = usMarks k0 (k * 3))) (fun _ i _ => n - (intOf i).toNat)
  case atStart => exact ⟨0, Nat.zero_le _, rfl, by simp, World.grownBy.refl _ _, xs, ho, by simp [Hid, usMarks, marksF]⟩
  case round =>
    obtain ⟨k, hk, rfl, rfl, hg, xs, hown, htk⟩ := hrel
    by_cases hlt : k < n
    · obtain ⟨g, rfl, hgb, hgs, hc, hf⟩ := own_addr hown (by omega)
      clear hc hf
      have i1 : (0 : Int) ≤ k := by omega
      have i2 : (k : Int) < n := by omega
      go_wp2_with fail
      refine (markI _ _ (by omega) (by omega)).mono ?_; rintro e w0 ⟨rfl, hb0⟩
      have own0 := own_below hown hb0
      have gr0 := grown_below hg hb0
      have own0 := own0
      clear hb0
      obtain ⟨d0, hd0⟩ := own_cells own0 (j := k * 3) (by omega)
      have hf1 := fun j => own0.frozenAt j
      obtain ⟨y0, o0, t0⟩ := own_fill (.string (mText (k0 + k * 3).toNat)) own0 htk.out rfl (by omega)
      have f0 := (own0.stored (k * 3) (.string (mText (k0 + k * 3).toNat))).2
      have G0 := gr0.trans f0
      have T0 := Lib.hid t0; clear t0
      go_wp2_with fail
      clear hd0 hf1
      refine (markI _ _ (by omega) (by omega)).mono ?_; rintro e w1 ⟨rfl, hb1⟩
      have own1 := own_below o0 hb1
      have gr1 := grown_below G0 hb1
      have own1 := own1
      clear hb1
      obtain ⟨d1, hd1⟩ := own_cells own1 (j := k * 3 + 1) (by omega)
      obtain ⟨d2, hd2⟩ := own_cells own1 (j := k * 3 + 2) (by omega)
      have hf2 := fun j => own1.frozenAt j
      obtain ⟨y1, o1, t1⟩ := own_fill (.string (mText (k0 + k * 3 + 1).toNat)) own1 T0.out rfl (by omega)
      have f1 := (own1.stored (k * 3 + 1) (.string (mText (k0 + k * 3 + 1).toNat))).2
      have G1 := gr1.trans f1
      obtain ⟨y2, o2, t2⟩ := own_fill (.int .i64 (k0 + k * 3 + 1 + 1)) o1 t1 rfl (by omega)
      have f2 := (o1.stored (k * 3 + 2) (.int .i64 (k0 + k * 3 + 1 + 1))).2
      have G2 := G1.trans f2
      have T1 := Lib.hid t1; clear t1; have T2 := Lib.hid t2; clear t2
      go_wp2_with fail
      clear hd1 hd2 hf2
      go_roundw
      case rel =>
        refine ⟨k + 1, by omega, by go_num, by go_num, G2, y2, o2, ?_⟩
        have e : (k + 1) * 3 = k * 3 + 1 + 1 + 1 := by omega
        show y2.take ((k + 1) * 3) = usMarks k0 ((k + 1) * 3)
        rw [e]
        have tt := T2.out
        refine Eq.trans ?_ (tt.trans ?_)
        · rfl
        · rw [usMarks_2, usMarks_1, usMarks_0]
      case measure => simp [intOf]; omega
    · go_wp2
      have : k = n := by omega
      subst this
      go_ret
      refine ⟨rfl, ?_, hg⟩
      rw [take_all htk.out (own_len hown)] at hown
      exact hown
set_option maxRecDepth 100000 in
theorem usOpen : FlatAs Try.prog 54 usCell usOk := by
  intro H enc w base spare held n cs x h
  obtain ⟨hlen, m, hf⟩ := open_fields Try.underlying54 (by kernel_rfl) (by kernel_rfl) h
  obtain ⟨v0, y0, h0, t0⟩ := hf 0 _ rfl
  obtain ⟨v1, y1, h1, t1⟩ := hf 1 _ rfl
  obtain ⟨v2, y2, h2, t2⟩ := hf 2 _ rfl
  obtain ⟨a0, e0, _, w0⟩ := DataW.trod_string Try.underlying9 t0
  obtain ⟨a1, e1, _, w1⟩ := DataW.trod_string Try.underlying9 t1
  obtain ⟨a2, e2, _, w2⟩ := DataW.trod_int Try.underlying3 t2
  simp only [List.cons.injEq, and_true] at e0 e1 e2
  subst e0 e1 e2
  match cs, hlen with
  | [_, _, _], _ =>
    simp at h0 h1 h2
    exact ⟨⟨a0, a1, a2⟩, by simp [usCell, h0, h1, h2], (by unfold maxLen at w0; simp only; omega), (by unfold maxLen at w1; simp only; omega), i64_of w2⟩
set_option maxRecDepth 100000 in
theorem open_uss {H : Type} {enc : TypeId × Value → H} {w : World} {base : Nat} {spare : Nat → Bool} {held : Bool} {r : Reach} {b0 : Nat} {v : Value} {d : DataW H} {p : List MemPlace}
    (hv : Value.okWide Try.prog w r b0 22 v) (h : DataW.Trod enc Try.prog w base spare held 22 v d p) :
    ∃ (A : Option Addr) (n c : Nat) (l : List Us), v = .slice A n c ∧ RS w 3 A n (l.flatMap usCell) ∧ n ≤ 9223372036854775807 ∧ ∀ y ∈ l, usOk y := by
  obtain ⟨a0, len, cap, rfl⟩ := okWide_slice Try.underlying22 hv
  obtain ⟨fuel, hf⟩ := h
  obtain ⟨A, n, c, l, hv, hr, hl, hn, hc, hok⟩ := open_flat (f := usCell) Try.underlying22 (by kernel_rfl : Try.prog.cellsOf 54 = 3) (by omega) (fun _ => rfl) usOpen (by simpa [Value.cells] using hf)
  exact ⟨A, n, c, l, hv, hr, by unfold maxLen at hc; omega, hok⟩
end Go.Proofs.Ytaldlinekipblaa
