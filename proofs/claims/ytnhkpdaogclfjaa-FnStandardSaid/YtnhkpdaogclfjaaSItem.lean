/- Item: a flat struct, and slices of it: the plain words and the walks of the laws' helpers. -/
import Derived.Test.YtnhkpdaogclfjaaFlat
import Derived.Laws.Rows
namespace Go.Proofs.Ytnhkpdaogclfjaa
open Go.ChangeShapes Go.WideShapes Go.ChangeAt Go.RowKit Go.Deep

structure It where
  code : ByteArray
  unit : ByteArray
  kind : Int
  lead : Int
  rule : Int
  size : Int
  safety : Int
  scrap : Int
abbrev itAgg (x : It) : Value := .agg #[.string x.code, .string x.unit, .int .i64 x.kind, .int .i64 x.lead, .int .i64 x.rule, .int .i64 x.size, .int .i64 x.safety, .int .i64 x.scrap]
def itCell (x : It) : List Value := [.string x.code, .string x.unit, .int .i64 x.kind, .int .i64 x.lead, .int .i64 x.rule, .int .i64 x.size, .int .i64 x.safety, .int .i64 x.scrap]
def itOk (x : It) : Prop := x.code.size ≤ 9223372036854775807 ∧ x.unit.size ≤ 9223372036854775807 ∧ i64 x.kind ∧ i64 x.lead ∧ i64 x.rule ∧ i64 x.size ∧ i64 x.safety ∧ i64 x.scrap
theorem itCell_len : ∀ y, (itCell y).length = 8 := fun _ => rfl
theorem itCell_one : ∀ x, ∀ u ∈ itCell x, u.oneCell' = true := by
  intro x u hu
  simp only [itCell, List.mem_cons, List.not_mem_nil, or_false] at hu
  rcases hu with rfl | rfl | rfl | rfl | rfl | rfl | rfl | rfl <;> rfl
theorem RS.itAt {w : World} {A : Option Addr} {n k : Nat} {l : List It} (h : RS w 8 A n (l.flatMap itCell)) (hk : k < n) :
    ∃ g off, A = some ⟨g, off, none⟩ ∧ ∃ y, l[k]? = some y ∧ w.cell? ⟨g, off + k * 8, none⟩ = some (.string y.code) ∧ w.cell? ⟨g, off + k * 8 + 1, none⟩ = some (.string y.unit) ∧ w.cell? ⟨g, off + k * 8 + 2, none⟩ = some (.int .i64 y.kind) ∧ w.cell? ⟨g, off + k * 8 + 3, none⟩ = some (.int .i64 y.lead) ∧ w.cell? ⟨g, off + k * 8 + 4, none⟩ = some (.int .i64 y.rule) ∧ w.cell? ⟨g, off + k * 8 + 5, none⟩ = some (.int .i64 y.size) ∧ w.cell? ⟨g, off + k * 8 + 6, none⟩ = some (.int .i64 y.safety) ∧ w.cell? ⟨g, off + k * 8 + 7, none⟩ = some (.int .i64 y.scrap) := by
  obtain ⟨g, off, e, y, hy, hc⟩ := h.flatAt itCell_len (by omega) hk
  exact ⟨g, off, e, y, hy, hc 0 (by omega), hc 1 (by omega), hc 2 (by omega), hc 3 (by omega), hc 4 (by omega), hc 5 (by omega), hc 6 (by omega), hc 7 (by omega)⟩
theorem itInfo : (Try.prog.info? 64).map (fun i => (i.zero, i.size, i.bytes)) = some (some (.agg #[.string ⟨#[]⟩, .string ⟨#[]⟩, .int .i64 0, .int .i64 0, .int .i64 0, .int .i64 0, .int .i64 0, .int .i64 0]), 8, 80) := by kernel_rfl
def itSz (x : It) : Int := (x.code.size : Int) + (x.unit.size : Int)
theorem itSz_nonneg (x : It) : 0 ≤ itSz x := by unfold itSz; omega
set_option maxHeartbeats 1000000 in
theorem szItem_any (x : It) (left : Int) (w : World) (h0 : 0 ≤ left) (h1 : left ≤ 1048576) (hs : itOk x) :
    Calls Try.prog 27 #[itAgg x, .int .i64 left] w fun e' w' => e' = .returned (.int .i64 (szRes left (itSz x))) ∧ Below w.heap.size w w' := by
  obtain ⟨code, unit, kind, lead, rule, size, safety, scrap⟩ := x
  simp only [itOk] at hs
  simp only [itSz]
  have hs' : code.size ≤ 9223372036854775807 ∧ unit.size ≤ 9223372036854775807 := by omega
  clear hs
  obtain ⟨z0, z1⟩ := hs'
  by_cases g0 : left - code.size < 0
  · have e0 := Lib.hid (show szRes left ((code.size : Int) + (unit.size : Int)) = -1 by rw [szRes_no (by omega)])
    go_enter Try.func27, Try.ntmps27
    go_wp2
    go_ret
    exact ⟨ret_int (by rw [e0.out]), by go_grown⟩
  ·
    by_cases g1 : left - code.size - unit.size < 0
    · have e0 := Lib.hid (show szRes left ((code.size : Int) + (unit.size : Int)) = -1 by rw [szRes_no (by omega)])
      go_enter Try.func27, Try.ntmps27
      go_wp2
      go_ret
      exact ⟨ret_int (by rw [e0.out]), by go_grown⟩
    · have e0 := Lib.hid (show szRes left ((code.size : Int) + (unit.size : Int)) = left - code.size - unit.size by rw [szRes_yes (by omega)]; try omega)
      go_enter Try.func27, Try.ntmps27
      go_wp2
      go_ret
      exact ⟨ret_int (by rw [e0.out]), by go_grown⟩
set_option maxHeartbeats 1000000 in
theorem szItemS_any (A : Option Addr) (n c : Nat) (l : List It) (left : Int) (w : World) (hr : RS w 8 A n (l.flatMap itCell)) (hn : n ≤ 9223372036854775807) (hok : ∀ x ∈ l, itOk x) (h0 : 0 ≤ left) (h1 : left ≤ 1048576) :
    Calls Try.prog 6 #[.slice A n c, .int .i64 left] w fun e w' => e = .returned (.int .i64 (szRes left (n + sumF itSz l n))) ∧ Below w.heap.size w w' := by
  have hl := Lib.hid (hr.flatLen itCell_len (by omega))
  have NN := Lib.hid (fun k => sumF_nonneg (f := itSz) (l := l) (fun x _ => itSz_nonneg x) k)
  have MO := Lib.hid (fun k (hk : k ≤ n) => sumF_mono (f := itSz) (l := l) (fun x _ => itSz_nonneg x) hk (by rw [hl.out]; exact Nat.le_refl _))
  have OK := Lib.hid hok; clear hok
  by_cases hln : left - n < 0
  · have e0 := Lib.hid (show szRes left (n + sumF itSz l n) = -1 by rw [szRes_no (by have := NN.out n; omega)])
    go_enter Try.func6, Try.ntmps6
    go_wp2_with fail
    go_ret
    exact ⟨ret_int (by rw [e0.out]), Below.refl _ _⟩
  · go_enter Try.func6, Try.ntmps6
    go_wp2_with fail
    go_loopw [1, 5] (fun t i wr => ∃ k : Nat, k ≤ n ∧ i = .int .i64 k ∧ t = .int .i64 (left - n - sumF itSz l k) ∧ 0 ≤ left - n - sumF itSz l k ∧ Below w.heap.size w wr) (fun _ i _ => n - (intOf i).toNat)
    case atStart => exact ⟨0, Nat.zero_le _, rfl, by rw [sumF_zero]; simp, by rw [sumF_zero]; omega, Below.refl _ _⟩
    case round =>
      obtain ⟨k, hk, rfl, rfl, hge, hb⟩ := hrel
      have nn := NN.out k
      by_cases hlt : k < n
      · obtain ⟨g, off, rfl, ⟨code, unit, kind, lead, rule, size, safety, scrap⟩, hx, hit0, hit1, hit2, hit3, hit4, hit5, hit6, hit7⟩ := (hr.below hb).itAt hlt
        have hs := Lib.hid (OK.out _ (List.mem_of_getElem? hx))
        have HS := Lib.hid (sumF_succ itSz hx)
        have mo := MO.out (k + 1) (by omega)
        rw [HS.out] at mo
        have sn := itSz_nonneg ⟨code, unit, kind, lead, rule, size, safety, scrap⟩
        have i1 : (0 : Int) ≤ k := by omega
        have i2 : (k : Int) < n := by omega
        clear hx
        by_cases hneg : left - n - sumF itSz l k - itSz ⟨code, unit, kind, lead, rule, size, safety, scrap⟩ < 0
        · have e0 := Lib.hid (show szRes left (n + sumF itSz l n) = -1 by rw [szRes_no (by omega)])
          go_wp2_with fail
          refine (szItem_any ⟨code, unit, kind, lead, rule, size, safety, scrap⟩ _ _ hge (by omega) hs.out).mono ?_; rw [szRes_no (by omega)]; rintro e w1 ⟨rfl, hb1⟩
          go_wp2_with fail
          go_ret
          exact ⟨ret_int (by rw [e0.out]), below_app hb hb1 hb.size⟩
        · go_wp2_with fail
          refine (szItem_any ⟨code, unit, kind, lead, rule, size, safety, scrap⟩ _ _ hge (by omega) hs.out).mono ?_; rw [szRes_yes (by omega)]; rintro e w1 ⟨rfl, hb1⟩
          go_wp2_with fail
          go_roundw
          case rel => exact ⟨k + 1, by omega, by go_num, by rw [HS.out]; go_num, by rw [HS.out]; omega, below_app hb hb1 hb.size⟩
          case measure => simp [intOf]; omega
      · obtain rfl : n = k := by omega
        have e0 := Lib.hid (show szRes left (n + sumF itSz l n) = left - n - sumF itSz l n by rw [szRes_yes (by omega)]; omega)
        go_wp2_with fail
        go_ret
        exact ⟨ret_int (by rw [e0.out]), hb⟩
theorem toItem_any (x : It) (w : World) : Calls Try.prog 32 #[itAgg x] w fun e' w' => e' = .returned (itAgg x) ∧ Below w.heap.size w w' := by
  obtain ⟨code, unit, kind, lead, rule, size, safety, scrap⟩ := x
  go_enter Try.func32, Try.ntmps32
  go_wp2
  go_returns
  exact ⟨rfl, by go_grown⟩
theorem eqItem_true (x : It) (w : World) : Calls Try.prog 37 #[itAgg x, itAgg x] w fun e' w' => e' = .returned (.bool true) ∧ Below w.heap.size w w' := by
  obtain ⟨code, unit, kind, lead, rule, size, safety, scrap⟩ := x
  go_enter Try.func37, Try.ntmps37
  go_wp2
  go_ret
  exact ⟨rfl, by go_grown⟩
set_option maxHeartbeats 1000000 in
theorem toItemS_any (A : Option Addr) (n c : Nat) (l : List It) (w : World) (hr : RS w 8 A n (l.flatMap itCell)) (hn : n ≤ 1048576) :
    Calls Try.prog 9 #[.slice A n c] w fun e w' => ∃ A' c', e = .returned (.slice A' n c') ∧ w'.ownsRow w.heap.size 64 8 (.slice A' n c') n (l.flatMap itCell) ∧ Below w.heap.size w w' := by
  have hl := Lib.hid (hr.flatLen itCell_len (by omega))
  obtain ⟨i0, hi, hz0, hz1, hz2⟩ := info_parts itInfo
  go_enter Try.func9, Try.ntmps9
  go_wp2_with (at_make; refine wpList_make_full _ rfl _ _ _ rfl w.heap.size 64 i0 _ 8 Try.underlying27 hi hz0 hz1 _ _ _ _ n rfl rfl rfl rfl (by rw [hz2]; omega) (by unfold maxLen; omega) (Nat.le_refl _) ?_; intro w1 hown1 hg1)
  have hb1 : Below w.heap.size w w1 := ⟨hg1.os, hg1.tape, hg1.output, hg1.size, fun k hk => hg1.block k hk (by simp)⟩
  clear hg1
  go_loopw [4] (fun i wr => ∃ k : Nat, k ≤ n ∧ i = .int .i64 k ∧ Below w.heap.size w wr ∧ ∃ xs, wr.ownsRow w.heap.size 64 8 (.slice (some ⟨w.heap.size, 0, none⟩) n n) n xs ∧ Hid (xs.take (k * 8) = (l.take k).flatMap itCell)) (fun i _ => n - (intOf i).toNat)
  case atStart => exact ⟨0, Nat.zero_le _, rfl, hb1, _, hown1, by simp [Hid]⟩
  case round =>
    obtain ⟨k, hk, rfl, hb, xs, hown, htk⟩ := hrel
    clear hb1 hown1
    by_cases hlt : k < n
    · obtain ⟨g, off, rfl, ⟨code, unit, kind, lead, rule, size, safety, scrap⟩, hx, hit0, hit1, hit2, hit3, hit4, hit5, hit6, hit7⟩ := (hr.below hb).itAt hlt
      have HX := Lib.hid hx; clear hx
      go_wp2_with (go_at_call 32; refine (toItem_any ⟨code, unit, kind, lead, rule, size, safety, scrap⟩ _).mono ?_; rintro e w2 ⟨rfl, hb2⟩; have hown2 := own_below hown hb2; obtain ⟨d0, hd0⟩ := own_cells hown2 (j := k * 8) (by omega); obtain ⟨d1, hd1⟩ := own_cells hown2 (j := k * 8 + 1) (by omega); obtain ⟨d2, hd2⟩ := own_cells hown2 (j := k * 8 + 2) (by omega); obtain ⟨d3, hd3⟩ := own_cells hown2 (j := k * 8 + 3) (by omega); obtain ⟨d4, hd4⟩ := own_cells hown2 (j := k * 8 + 4) (by omega); obtain ⟨d5, hd5⟩ := own_cells hown2 (j := k * 8 + 5) (by omega); obtain ⟨d6, hd6⟩ := own_cells hown2 (j := k * 8 + 6) (by omega); obtain ⟨d7, hd7⟩ := own_cells hown2 (j := k * 8 + 7) (by omega); have hf := fun j => hown2.frozenAt j)
      go_roundw
      case rel =>
        obtain ⟨y0, o0, t0⟩ := own_fill (.string code) hown2 htk.out rfl (by omega)
        obtain ⟨y1, o1, t1⟩ := own_fill (.string unit) o0 t0 rfl (by omega)
        obtain ⟨y2, o2, t2⟩ := own_fill (.int .i64 kind) o1 t1 rfl (by omega)
        obtain ⟨y3, o3, t3⟩ := own_fill (.int .i64 lead) o2 t2 rfl (by omega)
        obtain ⟨y4, o4, t4⟩ := own_fill (.int .i64 rule) o3 t3 rfl (by omega)
        obtain ⟨y5, o5, t5⟩ := own_fill (.int .i64 size) o4 t4 rfl (by omega)
        obtain ⟨y6, o6, t6⟩ := own_fill (.int .i64 safety) o5 t5 rfl (by omega)
        obtain ⟨y7, o7, t7⟩ := own_fill (.int .i64 scrap) o6 t6 rfl (by omega)
        refine ⟨k + 1, by omega, by go_num, ((((((((below_app hb hb2 hb.size).setCell (Nat.le_refl _) _).setCell (Nat.le_refl _) _).setCell (Nat.le_refl _) _).setCell (Nat.le_refl _) _).setCell (Nat.le_refl _) _).setCell (Nat.le_refl _) _).setCell (Nat.le_refl _) _).setCell (Nat.le_refl _) _, y7, o7, ?_⟩
        show y7.take ((k + 1) * 8) = _
        rw [show (k + 1) * 8 = k * 8 + 1 + 1 + 1 + 1 + 1 + 1 + 1 + 1 by omega, t7, take_flat HX.out]
        simp [itCell]
      case measure => simp [intOf]; omega
    · go_wp2
      have : k = n := by omega
      subst this
      go_ret
      refine ⟨_, _, rfl, ?_, hb⟩
      rw [take_all htk.out (own_len hown), List.take_of_length_le (by rw [hl.out]; exact Nat.le_refl _)] at hown
      exact hown
set_option maxHeartbeats 1000000 in
theorem eqItemS_true (A : Option Addr) (n c : Nat) (l : List It) (A' : Option Addr) (n' c' : Nat) (l' : List It) (w : World) (hr : RS w 8 A n (l.flatMap itCell)) (hr' : RS w 8 A' n' (l'.flatMap itCell)) (hn : n ≤ 9223372036854775807) (hn' : n' ≤ 9223372036854775807) (heq : l = l') :
    Calls Try.prog 12 #[.slice A n c, .slice A' n' c'] w fun e w' => e = .returned (.bool true) ∧ Below w.heap.size w w' := by
  have hl := hr.flatLen itCell_len (by omega)
  have hl' := hr'.flatLen itCell_len (by omega)
  obtain rfl : n = n' := by rw [← hl, ← hl', heq]
  have HE := Lib.hid heq; clear heq hl hl'
  go_enter Try.func12, Try.ntmps12
  go_wp2
  go_loopw [5] (fun i wr => ∃ k : Nat, k ≤ n ∧ i = .int .i64 k ∧ Below w.heap.size w wr) (fun i _ => n - (intOf i).toNat)
  case atStart => exact ⟨0, Nat.zero_le _, rfl, Below.refl _ _⟩
  case round =>
    obtain ⟨k, hk, rfl, hb⟩ := hrel
    by_cases hlt : k < n
    · obtain ⟨g, off, rfl, x, hx, hit0, hit1, hit2, hit3, hit4, hit5, hit6, hit7⟩ := (hr.below hb).itAt hlt
      obtain ⟨g', off', rfl, x', hx', kit0, kit1, kit2, kit3, kit4, kit5, kit6, kit7⟩ := (hr'.below hb).itAt hlt
      rw [HE.out, hx'] at hx
      obtain rfl : x' = x := by simpa using hx
      clear hx hx'
      obtain ⟨code, unit, kind, lead, rule, size, safety, scrap⟩ := x'
      have i1 : (0 : Int) ≤ k := by omega
      have i2 : (k : Int) < n := by omega
      have a0 := cell_wext hit0; have b0 := cell_wext kit0; have a1 := cell_wext hit1; have b1 := cell_wext kit1; have a2 := cell_wext hit2; have b2 := cell_wext kit2; have a3 := cell_wext hit3; have b3 := cell_wext kit3; have a4 := cell_wext hit4; have b4 := cell_wext kit4; have a5 := cell_wext hit5; have b5 := cell_wext kit5; have a6 := cell_wext hit6; have b6 := cell_wext kit6; have a7 := cell_wext hit7; have b7 := cell_wext kit7
      go_wp2
      refine wp_region_ext (by kernel_rfl) (by kernel_rfl) ?_
      repeat (go_big_quiet_step ((go_at_call 37; exact ext_call (eqItem_true ⟨code, unit, kind, lead, rule, size, safety, scrap⟩ _))))
      refine wpQuiet_nil ?_
      intro _ hw'; obtain ⟨nq, hw''⟩ := hw'; subst hw''
      go_wp2
      go_roundw
      case rel => exact ⟨k + 1, by omega, by go_num, below_app hb (below_wext _ _) hb.size⟩
      case measure => simp [intOf]; omega
    · go_wp2
      have : k = n := by omega
      subst this
      go_ret
      exact ⟨rfl, hb⟩
def itMarks (k0 : Int) (N : Nat) : List Value := marksF (fun j => [true, true, false, false, false, false, false, false].getD j false) 8 k0 N
theorem itMarks_0 (k0 : Int) (k : Nat) : itMarks k0 (k * 8 + 1) = itMarks k0 (k * 8) ++ [.string (mText (k0 + k * 8).toNat)] := by
  unfold itMarks
  rw [marksF_succ]
  have e1 : (k * 8) % 8 = 0 := by omega
  have e2 : k0 + ((k * 8 : Nat) : Int) = k0 + k * 8 := by simp; try omega
  rw [e1, e2]; rfl
theorem itMarks_at0 (k0 : Int) (n k : Nat) (h : k < n) : (itMarks k0 (n * 8))[k * 8 + 0]? = some (.string (mText (k0 + k * 8).toNat)) := by
  unfold itMarks
  rw [marksF_at _ _ _ (by omega)]
  have e1 : (k * 8 + 0) % 8 = 0 := by omega
  have e2 : k0 + ((k * 8 + 0 : Nat) : Int) = k0 + k * 8 := by simp; try omega
  rw [e1, e2]; rfl
theorem itMarks_1 (k0 : Int) (k : Nat) : itMarks k0 (k * 8 + 1 + 1) = itMarks k0 (k * 8 + 1) ++ [.string (mText (k0 + k * 8 + 1).toNat)] := by
  unfold itMarks
  rw [marksF_succ]
  have e1 : (k * 8 + 1) % 8 = 1 := by omega
  have e2 : k0 + ((k * 8 + 1 : Nat) : Int) = k0 + k * 8 + 1 := by simp; try omega
  rw [e1, e2]; rfl
theorem itMarks_at1 (k0 : Int) (n k : Nat) (h : k < n) : (itMarks k0 (n * 8))[k * 8 + 1]? = some (.string (mText (k0 + k * 8 + 1).toNat)) := by
  unfold itMarks
  rw [marksF_at _ _ _ (by omega)]
  have e1 : (k * 8 + 1) % 8 = 1 := by omega
  have e2 : k0 + ((k * 8 + 1 : Nat) : Int) = k0 + k * 8 + 1 := by simp; try omega
  rw [e1, e2]; rfl
theorem itMarks_2 (k0 : Int) (k : Nat) : itMarks k0 (k * 8 + 1 + 1 + 1) = itMarks k0 (k * 8 + 1 + 1) ++ [.int .i64 (k0 + k * 8 + 1 + 1)] := by
  unfold itMarks
  rw [marksF_succ]
  have e1 : (k * 8 + 1 + 1) % 8 = 2 := by omega
  have e2 : k0 + ((k * 8 + 1 + 1 : Nat) : Int) = k0 + k * 8 + 1 + 1 := by simp; try omega
  rw [e1, e2]; rfl
theorem itMarks_at2 (k0 : Int) (n k : Nat) (h : k < n) : (itMarks k0 (n * 8))[k * 8 + 2]? = some (.int .i64 (k0 + k * 8 + 1 + 1)) := by
  unfold itMarks
  rw [marksF_at _ _ _ (by omega)]
  have e1 : (k * 8 + 2) % 8 = 2 := by omega
  have e2 : k0 + ((k * 8 + 2 : Nat) : Int) = k0 + k * 8 + 1 + 1 := by simp; try omega
  rw [e1, e2]; rfl
theorem itMarks_3 (k0 : Int) (k : Nat) : itMarks k0 (k * 8 + 1 + 1 + 1 + 1) = itMarks k0 (k * 8 + 1 + 1 + 1) ++ [.int .i64 (k0 + k * 8 + 1 + 1 + 1)] := by
  unfold itMarks
  rw [marksF_succ]
  have e1 : (k * 8 + 1 + 1 + 1) % 8 = 3 := by omega
  have e2 : k0 + ((k * 8 + 1 + 1 + 1 : Nat) : Int) = k0 + k * 8 + 1 + 1 + 1 := by simp; try omega
  rw [e1, e2]; rfl
theorem itMarks_at3 (k0 : Int) (n k : Nat) (h : k < n) : (itMarks k0 (n * 8))[k * 8 + 3]? = some (.int .i64 (k0 + k * 8 + 1 + 1 + 1)) := by
  unfold itMarks
  rw [marksF_at _ _ _ (by omega)]
  have e1 : (k * 8 + 3) % 8 = 3 := by omega
  have e2 : k0 + ((k * 8 + 3 : Nat) : Int) = k0 + k * 8 + 1 + 1 + 1 := by simp; try omega
  rw [e1, e2]; rfl
theorem itMarks_4 (k0 : Int) (k : Nat) : itMarks k0 (k * 8 + 1 + 1 + 1 + 1 + 1) = itMarks k0 (k * 8 + 1 + 1 + 1 + 1) ++ [.int .i64 (k0 + k * 8 + 1 + 1 + 1 + 1)] := by
  unfold itMarks
  rw [marksF_succ]
  have e1 : (k * 8 + 1 + 1 + 1 + 1) % 8 = 4 := by omega
  have e2 : k0 + ((k * 8 + 1 + 1 + 1 + 1 : Nat) : Int) = k0 + k * 8 + 1 + 1 + 1 + 1 := by simp; try omega
  rw [e1, e2]; rfl
theorem itMarks_at4 (k0 : Int) (n k : Nat) (h : k < n) : (itMarks k0 (n * 8))[k * 8 + 4]? = some (.int .i64 (k0 + k * 8 + 1 + 1 + 1 + 1)) := by
  unfold itMarks
  rw [marksF_at _ _ _ (by omega)]
  have e1 : (k * 8 + 4) % 8 = 4 := by omega
  have e2 : k0 + ((k * 8 + 4 : Nat) : Int) = k0 + k * 8 + 1 + 1 + 1 + 1 := by simp; try omega
  rw [e1, e2]; rfl
theorem itMarks_5 (k0 : Int) (k : Nat) : itMarks k0 (k * 8 + 1 + 1 + 1 + 1 + 1 + 1) = itMarks k0 (k * 8 + 1 + 1 + 1 + 1 + 1) ++ [.int .i64 (k0 + k * 8 + 1 + 1 + 1 + 1 + 1)] := by
  unfold itMarks
  rw [marksF_succ]
  have e1 : (k * 8 + 1 + 1 + 1 + 1 + 1) % 8 = 5 := by omega
  have e2 : k0 + ((k * 8 + 1 + 1 + 1 + 1 + 1 : Nat) : Int) = k0 + k * 8 + 1 + 1 + 1 + 1 + 1 := by simp; try omega
  rw [e1, e2]; rfl
theorem itMarks_at5 (k0 : Int) (n k : Nat) (h : k < n) : (itMarks k0 (n * 8))[k * 8 + 5]? = some (.int .i64 (k0 + k * 8 + 1 + 1 + 1 + 1 + 1)) := by
  unfold itMarks
  rw [marksF_at _ _ _ (by omega)]
  have e1 : (k * 8 + 5) % 8 = 5 := by omega
  have e2 : k0 + ((k * 8 + 5 : Nat) : Int) = k0 + k * 8 + 1 + 1 + 1 + 1 + 1 := by simp; try omega
  rw [e1, e2]; rfl
theorem itMarks_6 (k0 : Int) (k : Nat) : itMarks k0 (k * 8 + 1 + 1 + 1 + 1 + 1 + 1 + 1) = itMarks k0 (k * 8 + 1 + 1 + 1 + 1 + 1 + 1) ++ [.int .i64 (k0 + k * 8 + 1 + 1 + 1 + 1 + 1 + 1)] := by
  unfold itMarks
  rw [marksF_succ]
  have e1 : (k * 8 + 1 + 1 + 1 + 1 + 1 + 1) % 8 = 6 := by omega
  have e2 : k0 + ((k * 8 + 1 + 1 + 1 + 1 + 1 + 1 : Nat) : Int) = k0 + k * 8 + 1 + 1 + 1 + 1 + 1 + 1 := by simp; try omega
  rw [e1, e2]; rfl
theorem itMarks_at6 (k0 : Int) (n k : Nat) (h : k < n) : (itMarks k0 (n * 8))[k * 8 + 6]? = some (.int .i64 (k0 + k * 8 + 1 + 1 + 1 + 1 + 1 + 1)) := by
  unfold itMarks
  rw [marksF_at _ _ _ (by omega)]
  have e1 : (k * 8 + 6) % 8 = 6 := by omega
  have e2 : k0 + ((k * 8 + 6 : Nat) : Int) = k0 + k * 8 + 1 + 1 + 1 + 1 + 1 + 1 := by simp; try omega
  rw [e1, e2]; rfl
theorem itMarks_7 (k0 : Int) (k : Nat) : itMarks k0 (k * 8 + 1 + 1 + 1 + 1 + 1 + 1 + 1 + 1) = itMarks k0 (k * 8 + 1 + 1 + 1 + 1 + 1 + 1 + 1) ++ [.int .i64 (k0 + k * 8 + 1 + 1 + 1 + 1 + 1 + 1 + 1)] := by
  unfold itMarks
  rw [marksF_succ]
  have e1 : (k * 8 + 1 + 1 + 1 + 1 + 1 + 1 + 1) % 8 = 7 := by omega
  have e2 : k0 + ((k * 8 + 1 + 1 + 1 + 1 + 1 + 1 + 1 : Nat) : Int) = k0 + k * 8 + 1 + 1 + 1 + 1 + 1 + 1 + 1 := by simp; try omega
  rw [e1, e2]; rfl
theorem itMarks_at7 (k0 : Int) (n k : Nat) (h : k < n) : (itMarks k0 (n * 8))[k * 8 + 7]? = some (.int .i64 (k0 + k * 8 + 1 + 1 + 1 + 1 + 1 + 1 + 1)) := by
  unfold itMarks
  rw [marksF_at _ _ _ (by omega)]
  have e1 : (k * 8 + 7) % 8 = 7 := by omega
  have e2 : k0 + ((k * 8 + 7 : Nat) : Int) = k0 + k * 8 + 1 + 1 + 1 + 1 + 1 + 1 + 1 := by simp; try omega
  rw [e1, e2]; rfl
set_option maxRecDepth 100000 in
theorem itOpen : FlatAs Try.prog 58 itCell itOk := by
  intro H enc w base spare held n cs x h
  obtain ⟨hlen, m, hf⟩ := open_fields Try.underlying58 (by kernel_rfl) (by kernel_rfl) h
  obtain ⟨v0, y0, h0, t0⟩ := hf 0 _ rfl
  obtain ⟨v1, y1, h1, t1⟩ := hf 1 _ rfl
  obtain ⟨v2, y2, h2, t2⟩ := hf 2 _ rfl
  obtain ⟨v3, y3, h3, t3⟩ := hf 3 _ rfl
  obtain ⟨v4, y4, h4, t4⟩ := hf 4 _ rfl
  obtain ⟨v5, y5, h5, t5⟩ := hf 5 _ rfl
  obtain ⟨v6, y6, h6, t6⟩ := hf 6 _ rfl
  obtain ⟨v7, y7, h7, t7⟩ := hf 7 _ rfl
  obtain ⟨a0, e0, _, w0⟩ := DataW.trod_string Try.underlying9 t0
  obtain ⟨a1, e1, _, w1⟩ := DataW.trod_string Try.underlying9 t1
  obtain ⟨a2, e2, _, w2⟩ := DataW.trod_int Try.underlying3 t2
  obtain ⟨a3, e3, _, w3⟩ := DataW.trod_int Try.underlying3 t3
  obtain ⟨a4, e4, _, w4⟩ := DataW.trod_int Try.underlying3 t4
  obtain ⟨a5, e5, _, w5⟩ := DataW.trod_int Try.underlying3 t5
  obtain ⟨a6, e6, _, w6⟩ := DataW.trod_int Try.underlying3 t6
  obtain ⟨a7, e7, _, w7⟩ := DataW.trod_int Try.underlying3 t7
  simp only [List.cons.injEq, and_true] at e0 e1 e2 e3 e4 e5 e6 e7
  subst e0 e1 e2 e3 e4 e5 e6 e7
  match cs, hlen with
  | [_, _, _, _, _, _, _, _], _ =>
    simp at h0 h1 h2 h3 h4 h5 h6 h7
    exact ⟨⟨a0, a1, a2, a3, a4, a5, a6, a7⟩, by simp [itCell, h0, h1, h2, h3, h4, h5, h6, h7], (by unfold maxLen at w0; simp only; omega), (by unfold maxLen at w1; simp only; omega), i64_of w2, i64_of w3, i64_of w4, i64_of w5, i64_of w6, i64_of w7⟩
set_option maxRecDepth 100000 in
theorem open_its {H : Type} {enc : TypeId × Value → H} {w : World} {base : Nat} {spare : Nat → Bool} {held : Bool} {r : Reach} {b0 : Nat} {v : Value} {d : DataW H} {p : List MemPlace}
    (hv : Value.okWide Try.prog w r b0 22 v) (h : DataW.Trod enc Try.prog w base spare held 22 v d p) :
    ∃ (A : Option Addr) (n c : Nat) (l : List It), v = .slice A n c ∧ RS w 8 A n (l.flatMap itCell) ∧ n ≤ 9223372036854775807 ∧ ∀ y ∈ l, itOk y := by
  obtain ⟨a0, len, cap, rfl⟩ := okWide_slice Try.underlying22 hv
  obtain ⟨fuel, hf⟩ := h
  obtain ⟨A, n, c, l, hv, hr, hl, hn, hc, hok⟩ := open_flat (f := itCell) Try.underlying22 (by kernel_rfl : Try.prog.cellsOf 58 = 8) (by omega) (fun _ => rfl) itOpen (by simpa [Value.cells] using hf)
  exact ⟨A, n, c, l, hv, hr, by unfold maxLen at hc; omega, hok⟩
end Go.Proofs.Ytnhkpdaogclfjaa
