/- CondNode: a flat struct, and slices of it: the plain words and the walks of the laws' helpers. -/
import Derived.Test.YtnhkpdaogclfjaaFlat
import Derived.Laws.Rows
namespace Go.Proofs.Ytnhkpdaogclfjaa
open Go.ChangeShapes Go.WideShapes Go.ChangeAt Go.RowKit Go.Deep

structure Cn where
  kind : Int
  opt : ByteArray
  val : ByteArray
abbrev cnAgg (x : Cn) : Value := .agg #[.int .i64 x.kind, .string x.opt, .string x.val]
def cnCell (x : Cn) : List Value := [.int .i64 x.kind, .string x.opt, .string x.val]
def cnOk (x : Cn) : Prop := i64 x.kind ∧ x.opt.size ≤ 9223372036854775807 ∧ x.val.size ≤ 9223372036854775807
theorem cnCell_len : ∀ y, (cnCell y).length = 3 := fun _ => rfl
theorem cnCell_one : ∀ x, ∀ u ∈ cnCell x, u.oneCell' = true := by
  intro x u hu
  simp only [cnCell, List.mem_cons, List.not_mem_nil, or_false] at hu
  rcases hu with rfl | rfl | rfl <;> rfl
theorem RS.cnAt {w : World} {A : Option Addr} {n k : Nat} {l : List Cn} (h : RS w 3 A n (l.flatMap cnCell)) (hk : k < n) :
    ∃ g off, A = some ⟨g, off, none⟩ ∧ ∃ y, l[k]? = some y ∧ w.cell? ⟨g, off + k * 3, none⟩ = some (.int .i64 y.kind) ∧ w.cell? ⟨g, off + k * 3 + 1, none⟩ = some (.string y.opt) ∧ w.cell? ⟨g, off + k * 3 + 2, none⟩ = some (.string y.val) := by
  obtain ⟨g, off, e, y, hy, hc⟩ := h.flatAt cnCell_len (by omega) hk
  exact ⟨g, off, e, y, hy, hc 0 (by omega), hc 1 (by omega), hc 2 (by omega)⟩
theorem cnInfo : (Try.prog.info? 126).map (fun i => (i.zero, i.size, i.bytes)) = some (some (.agg #[.int .i64 0, .string ⟨#[]⟩, .string ⟨#[]⟩]), 3, 40) := by kernel_rfl
def cnSz (x : Cn) : Int := (x.opt.size : Int) + (x.val.size : Int)
theorem cnSz_nonneg (x : Cn) : 0 ≤ cnSz x := by unfold cnSz; omega
set_option maxHeartbeats 1000000 in
theorem szCondNode_any (x : Cn) (left : Int) (w : World) (h0 : 0 ≤ left) (h1 : left ≤ 1048576) (hs : cnOk x) :
    Calls Try.prog 84 #[cnAgg x, .int .i64 left] w fun e' w' => e' = .returned (.int .i64 (szRes left (cnSz x))) ∧ Below w.heap.size w w' := by
  obtain ⟨kind, opt, val⟩ := x
  simp only [cnOk] at hs
  simp only [cnSz]
  have hs' : opt.size ≤ 9223372036854775807 ∧ val.size ≤ 9223372036854775807 := by omega
  clear hs
  obtain ⟨z0, z1⟩ := hs'
  by_cases g0 : left - opt.size < 0
  · have e0 := Lib.hid (show szRes left ((opt.size : Int) + (val.size : Int)) = -1 by rw [szRes_no (by omega)])
    go_enter Try.func84, Try.ntmps84
    go_wp2
    go_ret
    exact ⟨ret_int (by rw [e0.out]), by go_grown⟩
  ·
    by_cases g1 : left - opt.size - val.size < 0
    · have e0 := Lib.hid (show szRes left ((opt.size : Int) + (val.size : Int)) = -1 by rw [szRes_no (by omega)])
      go_enter Try.func84, Try.ntmps84
      go_wp2
      go_ret
      exact ⟨ret_int (by rw [e0.out]), by go_grown⟩
    · have e0 := Lib.hid (show szRes left ((opt.size : Int) + (val.size : Int)) = left - opt.size - val.size by rw [szRes_yes (by omega)]; try omega)
      go_enter Try.func84, Try.ntmps84
      go_wp2
      go_ret
      exact ⟨ret_int (by rw [e0.out]), by go_grown⟩
set_option maxHeartbeats 1000000 in
theorem szCondNodeS_any (A : Option Addr) (n c : Nat) (l : List Cn) (left : Int) (w : World) (hr : RS w 3 A n (l.flatMap cnCell)) (hn : n ≤ 9223372036854775807) (hok : ∀ x ∈ l, cnOk x) (h0 : 0 ≤ left) (h1 : left ≤ 1048576) :
    Calls Try.prog 64 #[.slice A n c, .int .i64 left] w fun e w' => e = .returned (.int .i64 (szRes left (n + sumF cnSz l n))) ∧ Below w.heap.size w w' := by
  have hl := Lib.hid (hr.flatLen cnCell_len (by omega))
  have NN := Lib.hid (fun k => sumF_nonneg (f := cnSz) (l := l) (fun x _ => cnSz_nonneg x) k)
  have MO := Lib.hid (fun k (hk : k ≤ n) => sumF_mono (f := cnSz) (l := l) (fun x _ => cnSz_nonneg x) hk (by rw [hl.out]; exact Nat.le_refl _))
  have OK := Lib.hid hok; clear hok
  by_cases hln : left - n < 0
  · have e0 := Lib.hid (show szRes left (n + sumF cnSz l n) = -1 by rw [szRes_no (by have := NN.out n; omega)])
    go_enter Try.func64, Try.ntmps64
    go_wp2_with fail
    go_ret
    exact ⟨ret_int (by rw [e0.out]), Below.refl _ _⟩
  · go_enter Try.func64, Try.ntmps64
    go_wp2_with fail
    go_loopw [1, 5] (fun t i wr => ∃ k : Nat, k ≤ n ∧ i = .int .i64 k ∧ t = .int .i64 (left - n - sumF cnSz l k) ∧ 0 ≤ left - n - sumF cnSz l k ∧ Below w.heap.size w wr) (fun _ i _ => n - (intOf i).toNat)
    case atStart => exact ⟨0, Nat.zero_le _, rfl, by rw [sumF_zero]; simp, by rw [sumF_zero]; omega, Below.refl _ _⟩
    case round =>
      obtain ⟨k, hk, rfl, rfl, hge, hb⟩ := hrel
      have nn := NN.out k
      by_cases hlt : k < n
      · obtain ⟨g, off, rfl, ⟨kind, opt, val⟩, hx, hcn0, hcn1, hcn2⟩ := (hr.below hb).cnAt hlt
        have hs := Lib.hid (OK.out _ (List.mem_of_getElem? hx))
        have HS := Lib.hid (sumF_succ cnSz hx)
        have mo := MO.out (k + 1) (by omega)
        rw [HS.out] at mo
        have sn := cnSz_nonneg ⟨kind, opt, val⟩
        have i1 : (0 : Int) ≤ k := by omega
        have i2 : (k : Int) < n := by omega
        clear hx
        by_cases hneg : left - n - sumF cnSz l k - cnSz ⟨kind, opt, val⟩ < 0
        · have e0 := Lib.hid (show szRes left (n + sumF cnSz l n) = -1 by rw [szRes_no (by omega)])
          go_wp2_with fail
          refine (szCondNode_any ⟨kind, opt, val⟩ _ _ hge (by omega) hs.out).mono ?_; rw [szRes_no (by omega)]; rintro e w1 ⟨rfl, hb1⟩
          go_wp2_with fail
          go_ret
          exact ⟨ret_int (by rw [e0.out]), below_app hb hb1 hb.size⟩
        · go_wp2_with fail
          refine (szCondNode_any ⟨kind, opt, val⟩ _ _ hge (by omega) hs.out).mono ?_; rw [szRes_yes (by omega)]; rintro e w1 ⟨rfl, hb1⟩
          go_wp2_with fail
          go_roundw
          case rel => exact ⟨k + 1, by omega, by go_num, by rw [HS.out]; go_num, by rw [HS.out]; omega, below_app hb hb1 hb.size⟩
          case measure => simp [intOf]; omega
      · obtain rfl : n = k := by omega
        have e0 := Lib.hid (show szRes left (n + sumF cnSz l n) = left - n - sumF cnSz l n by rw [szRes_yes (by omega)]; omega)
        go_wp2_with fail
        go_ret
        exact ⟨ret_int (by rw [e0.out]), hb⟩
theorem toCondNode_any (x : Cn) (w : World) : Calls Try.prog 86 #[cnAgg x] w fun e' w' => e' = .returned (cnAgg x) ∧ Below w.heap.size w w' := by
  obtain ⟨kind, opt, val⟩ := x
  go_enter Try.func86, Try.ntmps86
  go_wp2
  go_returns
  exact ⟨rfl, by go_grown⟩
theorem eqCondNode_true (x : Cn) (w : World) : Calls Try.prog 88 #[cnAgg x, cnAgg x] w fun e' w' => e' = .returned (.bool true) ∧ Below w.heap.size w w' := by
  obtain ⟨kind, opt, val⟩ := x
  go_enter Try.func88, Try.ntmps88
  go_wp2
  go_ret
  exact ⟨rfl, by go_grown⟩
set_option maxHeartbeats 1000000 in
theorem toCondNodeS_any (A : Option Addr) (n c : Nat) (l : List Cn) (w : World) (hr : RS w 3 A n (l.flatMap cnCell)) (hn : n ≤ 1048576) :
    Calls Try.prog 67 #[.slice A n c] w fun e w' => ∃ A' c', e = .returned (.slice A' n c') ∧ w'.ownsRow w.heap.size 126 3 (.slice A' n c') n (l.flatMap cnCell) ∧ Below w.heap.size w w' := by
  have hl := Lib.hid (hr.flatLen cnCell_len (by omega))
  obtain ⟨i0, hi, hz0, hz1, hz2⟩ := info_parts cnInfo
  go_enter Try.func67, Try.ntmps67
  go_wp2_with (at_make; refine wpList_make_full _ rfl _ _ _ rfl w.heap.size 126 i0 _ 3 Try.underlying80 hi hz0 hz1 _ _ _ _ n rfl rfl rfl rfl (by rw [hz2]; omega) (by unfold maxLen; omega) (Nat.le_refl _) ?_; intro w1 hown1 hg1)
  have hb1 : Below w.heap.size w w1 := ⟨hg1.os, hg1.tape, hg1.output, hg1.size, fun k hk => hg1.block k hk (by simp)⟩
  clear hg1
  go_loopw [4] (fun i wr => ∃ k : Nat, k ≤ n ∧ i = .int .i64 k ∧ Below w.heap.size w wr ∧ ∃ xs, wr.ownsRow w.heap.size 126 3 (.slice (some ⟨w.heap.size, 0, none⟩) n n) n xs ∧ Hid (xs.take (k * 3) = (l.take k).flatMap cnCell)) (fun i _ => n - (intOf i).toNat)
  case atStart => exact ⟨0, Nat.zero_le _, rfl, hb1, _, hown1, by simp [Hid]⟩
  case round =>
    obtain ⟨k, hk, rfl, hb, xs, hown, htk⟩ := hrel
    clear hb1 hown1
    by_cases hlt : k < n
    · obtain ⟨g, off, rfl, ⟨kind, opt, val⟩, hx, hcn0, hcn1, hcn2⟩ := (hr.below hb).cnAt hlt
      have HX := Lib.hid hx; clear hx
      go_wp2_with (go_at_call 86; refine (toCondNode_any ⟨kind, opt, val⟩ _).mono ?_; rintro e w2 ⟨rfl, hb2⟩; have hown2 := own_below hown hb2; obtain ⟨d0, hd0⟩ := own_cells hown2 (j := k * 3) (by omega); obtain ⟨d1, hd1⟩ := own_cells hown2 (j := k * 3 + 1) (by omega); obtain ⟨d2, hd2⟩ := own_cells hown2 (j := k * 3 + 2) (by omega); have hf := fun j => hown2.frozenAt j)
      go_roundw
      case rel =>
        obtain ⟨y0, o0, t0⟩ := own_fill (.int .i64 kind) hown2 htk.out rfl (by omega)
        obtain ⟨y1, o1, t1⟩ := own_fill (.string opt) o0 t0 rfl (by omega)
        obtain ⟨y2, o2, t2⟩ := own_fill (.string val) o1 t1 rfl (by omega)
        refine ⟨k + 1, by omega, by go_num, (((below_app hb hb2 hb.size).setCell (Nat.le_refl _) _).setCell (Nat.le_refl _) _).setCell (Nat.le_refl _) _, y2, o2, ?_⟩
        show y2.take ((k + 1) * 3) = _
        rw [show (k + 1) * 3 = k * 3 + 1 + 1 + 1 by omega, t2, take_flat HX.out]
        simp [cnCell]
      case measure => simp [intOf]; omega
    · go_wp2
      have : k = n := by omega
      subst this
      go_ret
      refine ⟨_, _, rfl, ?_, hb⟩
      rw [take_all htk.out (own_len hown), List.take_of_length_le (by rw [hl.out]; exact Nat.le_refl _)] at hown
      exact hown
set_option maxHeartbeats 1000000 in
theorem eqCondNodeS_true (A : Option Addr) (n c : Nat) (l : List Cn) (A' : Option Addr) (n' c' : Nat) (l' : List Cn) (w : World) (hr : RS w 3 A n (l.flatMap cnCell)) (hr' : RS w 3 A' n' (l'.flatMap cnCell)) (hn : n ≤ 9223372036854775807) (hn' : n' ≤ 9223372036854775807) (heq : l = l') :
    Calls Try.prog 72 #[.slice A n c, .slice A' n' c'] w fun e w' => e = .returned (.bool true) ∧ Below w.heap.size w w' := by
  have hl := hr.flatLen cnCell_len (by omega)
  have hl' := hr'.flatLen cnCell_len (by omega)
  obtain rfl : n = n' := by rw [← hl, ← hl', heq]
  have HE := Lib.hid heq; clear heq hl hl'
  go_enter Try.func72, Try.ntmps72
  go_wp2
  go_loopw [5] (fun i wr => ∃ k : Nat, k ≤ n ∧ i = .int .i64 k ∧ Below w.heap.size w wr) (fun i _ => n - (intOf i).toNat)
  case atStart => exact ⟨0, Nat.zero_le _, rfl, Below.refl _ _⟩
  case round =>
    obtain ⟨k, hk, rfl, hb⟩ := hrel
    by_cases hlt : k < n
    · obtain ⟨g, off, rfl, x, hx, hcn0, hcn1, hcn2⟩ := (hr.below hb).cnAt hlt
      obtain ⟨g', off', rfl, x', hx', kcn0, kcn1, kcn2⟩ := (hr'.below hb).cnAt hlt
      rw [HE.out, hx'] at hx
      obtain rfl : x' = x := by simpa using hx
      clear hx hx'
      obtain ⟨kind, opt, val⟩ := x'
      have i1 : (0 : Int) ≤ k := by omega
      have i2 : (k : Int) < n := by omega
      have a0 := cell_wext hcn0; have b0 := cell_wext kcn0; have a1 := cell_wext hcn1; have b1 := cell_wext kcn1; have a2 := cell_wext hcn2; have b2 := cell_wext kcn2
      go_wp2
      refine wp_region_ext (by kernel_rfl) (by kernel_rfl) ?_
      repeat (go_big_quiet_step ((go_at_call 88; exact ext_call (eqCondNode_true ⟨kind, opt, val⟩ _))))
      refine wpQuiet_nil ?_
      intro _ hw'; obtain ⟨nq, hw''⟩ := hw'; subst hw''
      go_wp2
      go_roundw
      case rel => exact ⟨k + 1, by omega, by go_num, below_app hb (below_wext _ _) hb.size⟩
      case measure => simp [intOf]; omega
    · go_wp2
      have : k = n := by omega
      subst this
      go_ret
      exact ⟨rfl, hb⟩
def cnMarks (k0 : Int) (N : Nat) : List Value := marksF (fun j => [false, true, true].getD j false) 3 k0 N
theorem cnMarks_0 (k0 : Int) (k : Nat) : cnMarks k0 (k * 3 + 1) = cnMarks k0 (k * 3) ++ [.int .i64 (k0 + k * 3)] := by
  unfold cnMarks
  rw [marksF_succ]
  have e1 : (k * 3) % 3 = 0 := by omega
  have e2 : k0 + ((k * 3 : Nat) : Int) = k0 + k * 3 := by simp; try omega
  rw [e1, e2]; rfl
theorem cnMarks_at0 (k0 : Int) (n k : Nat) (h : k < n) : (cnMarks k0 (n * 3))[k * 3 + 0]? = some (.int .i64 (k0 + k * 3)) := by
  unfold cnMarks
  rw [marksF_at _ _ _ (by omega)]
  have e1 : (k * 3 + 0) % 3 = 0 := by omega
  have e2 : k0 + ((k * 3 + 0 : Nat) : Int) = k0 + k * 3 := by simp; try omega
  rw [e1, e2]; rfl
theorem cnMarks_1 (k0 : Int) (k : Nat) : cnMarks k0 (k * 3 + 1 + 1) = cnMarks k0 (k * 3 + 1) ++ [.string (mText (k0 + k * 3 + 1).toNat)] := by
  unfold cnMarks
  rw [marksF_succ]
  have e1 : (k * 3 + 1) % 3 = 1 := by omega
  have e2 : k0 + ((k * 3 + 1 : Nat) : Int) = k0 + k * 3 + 1 := by simp; try omega
  rw [e1, e2]; rfl
theorem cnMarks_at1 (k0 : Int) (n k : Nat) (h : k < n) : (cnMarks k0 (n * 3))[k * 3 + 1]? = some (.string (mText (k0 + k * 3 + 1).toNat)) := by
  unfold cnMarks
  rw [marksF_at _ _ _ (by omega)]
  have e1 : (k * 3 + 1) % 3 = 1 := by omega
  have e2 : k0 + ((k * 3 + 1 : Nat) : Int) = k0 + k * 3 + 1 := by simp; try omega
  rw [e1, e2]; rfl
theorem cnMarks_2 (k0 : Int) (k : Nat) : cnMarks k0 (k * 3 + 1 + 1 + 1) = cnMarks k0 (k * 3 + 1 + 1) ++ [.string (mText (k0 + k * 3 + 1 + 1).toNat)] := by
  unfold cnMarks
  rw [marksF_succ]
  have e1 : (k * 3 + 1 + 1) % 3 = 2 := by omega
  have e2 : k0 + ((k * 3 + 1 + 1 : Nat) : Int) = k0 + k * 3 + 1 + 1 := by simp; try omega
  rw [e1, e2]; rfl
theorem cnMarks_at2 (k0 : Int) (n k : Nat) (h : k < n) : (cnMarks k0 (n * 3))[k * 3 + 2]? = some (.string (mText (k0 + k * 3 + 1 + 1).toNat)) := by
  unfold cnMarks
  rw [marksF_at _ _ _ (by omega)]
  have e1 : (k * 3 + 2) % 3 = 2 := by omega
  have e2 : k0 + ((k * 3 + 2 : Nat) : Int) = k0 + k * 3 + 1 + 1 := by simp; try omega
  rw [e1, e2]; rfl
set_option maxRecDepth 100000 in
theorem cnOpen : FlatAs Try.prog 125 cnCell cnOk := by
  intro H enc w base spare held n cs x h
  obtain ⟨hlen, m, hf⟩ := open_fields Try.underlying125 (by kernel_rfl) (by kernel_rfl) h
  obtain ⟨v0, y0, h0, t0⟩ := hf 0 _ rfl
  obtain ⟨v1, y1, h1, t1⟩ := hf 1 _ rfl
  obtain ⟨v2, y2, h2, t2⟩ := hf 2 _ rfl
  obtain ⟨a0, e0, _, w0⟩ := DataW.trod_int Try.underlying3 t0
  obtain ⟨a1, e1, _, w1⟩ := DataW.trod_string Try.underlying9 t1
  obtain ⟨a2, e2, _, w2⟩ := DataW.trod_string Try.underlying9 t2
  simp only [List.cons.injEq, and_true] at e0 e1 e2
  subst e0 e1 e2
  match cs, hlen with
  | [_, _, _], _ =>
    simp at h0 h1 h2
    exact ⟨⟨a0, a1, a2⟩, by simp [cnCell, h0, h1, h2], i64_of w0, (by unfold maxLen at w1; simp only; omega), (by unfold maxLen at w2; simp only; omega)⟩
set_option maxRecDepth 100000 in
theorem open_cns {H : Type} {enc : TypeId × Value → H} {w : World} {base : Nat} {spare : Nat → Bool} {held : Bool} {r : Reach} {b0 : Nat} {v : Value} {d : DataW H} {p : List MemPlace}
    (hv : Value.okWide Try.prog w r b0 70 v) (h : DataW.Trod enc Try.prog w base spare held 70 v d p) :
    ∃ (A : Option Addr) (n c : Nat) (l : List Cn), v = .slice A n c ∧ RS w 3 A n (l.flatMap cnCell) ∧ n ≤ 9223372036854775807 ∧ ∀ y ∈ l, cnOk y := by
  obtain ⟨a0, len, cap, rfl⟩ := okWide_slice Try.underlying70 hv
  obtain ⟨fuel, hf⟩ := h
  obtain ⟨A, n, c, l, hv, hr, hl, hn, hc, hok⟩ := open_flat (f := cnCell) Try.underlying70 (by kernel_rfl : Try.prog.cellsOf 125 = 3) (by omega) (fun _ => rfl) cnOpen (by simpa [Value.cells] using hf)
  exact ⟨A, n, c, l, hv, hr, by unfold maxLen at hc; omega, hok⟩
end Go.Proofs.Ytnhkpdaogclfjaa
