/- Pick: a flat struct, and slices of it: the plain words and the walks of the laws' helpers. -/
import Derived.Test.YtnhkpdaogclfjaaFlat
import Derived.Laws.Rows
namespace Go.Proofs.Ytnhkpdaogclfjaa
open Go.ChangeShapes Go.WideShapes Go.ChangeAt Go.RowKit Go.Deep

structure Pk where
  opt : ByteArray
  val : ByteArray
abbrev pkAgg (x : Pk) : Value := .agg #[.string x.opt, .string x.val]
def pkCell (x : Pk) : List Value := [.string x.opt, .string x.val]
def pkOk (x : Pk) : Prop := x.opt.size ≤ 9223372036854775807 ∧ x.val.size ≤ 9223372036854775807
theorem pkCell_len : ∀ y, (pkCell y).length = 2 := fun _ => rfl
theorem pkCell_one : ∀ x, ∀ u ∈ pkCell x, u.oneCell' = true := by
  intro x u hu
  simp only [pkCell, List.mem_cons, List.not_mem_nil, or_false] at hu
  rcases hu with rfl | rfl <;> rfl
theorem RS.pkAt {w : World} {A : Option Addr} {n k : Nat} {l : List Pk} (h : RS w 2 A n (l.flatMap pkCell)) (hk : k < n) :
    ∃ g off, A = some ⟨g, off, none⟩ ∧ ∃ y, l[k]? = some y ∧ w.cell? ⟨g, off + k * 2, none⟩ = some (.string y.opt) ∧ w.cell? ⟨g, off + k * 2 + 1, none⟩ = some (.string y.val) := by
  obtain ⟨g, off, e, y, hy, hc⟩ := h.flatAt pkCell_len (by omega) hk
  exact ⟨g, off, e, y, hy, hc 0 (by omega), hc 1 (by omega)⟩
theorem pkInfo : (Try.prog.info? 86).map (fun i => (i.zero, i.size, i.bytes)) = some (some (.agg #[.string ⟨#[]⟩, .string ⟨#[]⟩]), 2, 32) := by kernel_rfl
def pkSz (x : Pk) : Int := (x.opt.size : Int) + (x.val.size : Int)
theorem pkSz_nonneg (x : Pk) : 0 ≤ pkSz x := by unfold pkSz; omega
set_option maxHeartbeats 1000000 in
theorem szPick_any (x : Pk) (left : Int) (w : World) (h0 : 0 ≤ left) (h1 : left ≤ 1048576) (hs : pkOk x) :
    Calls Try.prog 40 #[pkAgg x, .int .i64 left] w fun e' w' => e' = .returned (.int .i64 (szRes left (pkSz x))) ∧ Below w.heap.size w w' := by
  obtain ⟨opt, val⟩ := x
  simp only [pkOk] at hs
  simp only [pkSz]
  have hs' : opt.size ≤ 9223372036854775807 ∧ val.size ≤ 9223372036854775807 := by omega
  clear hs
  obtain ⟨z0, z1⟩ := hs'
  by_cases g0 : left - opt.size < 0
  · have e0 := Lib.hid (show szRes left ((opt.size : Int) + (val.size : Int)) = -1 by rw [szRes_no (by omega)])
    go_enter Try.func40, Try.ntmps40
    go_wp2
    go_ret
    exact ⟨ret_int (by rw [e0.out]), by go_grown⟩
  ·
    by_cases g1 : left - opt.size - val.size < 0
    · have e0 := Lib.hid (show szRes left ((opt.size : Int) + (val.size : Int)) = -1 by rw [szRes_no (by omega)])
      go_enter Try.func40, Try.ntmps40
      go_wp2
      go_ret
      exact ⟨ret_int (by rw [e0.out]), by go_grown⟩
    · have e0 := Lib.hid (show szRes left ((opt.size : Int) + (val.size : Int)) = left - opt.size - val.size by rw [szRes_yes (by omega)]; try omega)
      go_enter Try.func40, Try.ntmps40
      go_wp2
      go_ret
      exact ⟨ret_int (by rw [e0.out]), by go_grown⟩
set_option maxHeartbeats 1000000 in
theorem szPickS_any (A : Option Addr) (n c : Nat) (l : List Pk) (left : Int) (w : World) (hr : RS w 2 A n (l.flatMap pkCell)) (hn : n ≤ 9223372036854775807) (hok : ∀ x ∈ l, pkOk x) (h0 : 0 ≤ left) (h1 : left ≤ 1048576) :
    Calls Try.prog 15 #[.slice A n c, .int .i64 left] w fun e w' => e = .returned (.int .i64 (szRes left (n + sumF pkSz l n))) ∧ Below w.heap.size w w' := by
  have hl := Lib.hid (hr.flatLen pkCell_len (by omega))
  have NN := Lib.hid (fun k => sumF_nonneg (f := pkSz) (l := l) (fun x _ => pkSz_nonneg x) k)
  have MO := Lib.hid (fun k (hk : k ≤ n) => sumF_mono (f := pkSz) (l := l) (fun x _ => pkSz_nonneg x) hk (by rw [hl.out]; exact Nat.le_refl _))
  have OK := Lib.hid hok; clear hok
  by_cases hln : left - n < 0
  · have e0 := Lib.hid (show szRes left (n + sumF pkSz l n) = -1 by rw [szRes_no (by have := NN.out n; omega)])
    go_enter Try.func15, Try.ntmps15
    go_wp2_with fail
    go_ret
    exact ⟨ret_int (by rw [e0.out]), Below.refl _ _⟩
  · go_enter Try.func15, Try.ntmps15
    go_wp2_with fail
    go_loopw [1, 5] (fun t i wr => ∃ k : Nat, k ≤ n ∧ i = .int .i64 k ∧ t = .int .i64 (left - n - sumF pkSz l k) ∧ 0 ≤ left - n - sumF pkSz l k ∧ Below w.heap.size w wr) (fun _ i _ => n - (intOf i).toNat)
    case atStart => exact ⟨0, Nat.zero_le _, rfl, by rw [sumF_zero]; simp, by rw [sumF_zero]; omega, Below.refl _ _⟩
    case round =>
      obtain ⟨k, hk, rfl, rfl, hge, hb⟩ := hrel
      have nn := NN.out k
      by_cases hlt : k < n
      · obtain ⟨g, off, rfl, ⟨opt, val⟩, hx, hpk0, hpk1⟩ := (hr.below hb).pkAt hlt
        have hs := Lib.hid (OK.out _ (List.mem_of_getElem? hx))
        have HS := Lib.hid (sumF_succ pkSz hx)
        have mo := MO.out (k + 1) (by omega)
        rw [HS.out] at mo
        have sn := pkSz_nonneg ⟨opt, val⟩
        have i1 : (0 : Int) ≤ k := by omega
        have i2 : (k : Int) < n := by omega
        clear hx
        by_cases hneg : left - n - sumF pkSz l k - pkSz ⟨opt, val⟩ < 0
        · have e0 := Lib.hid (show szRes left (n + sumF pkSz l n) = -1 by rw [szRes_no (by omega)])
          go_wp2_with fail
          refine (szPick_any ⟨opt, val⟩ _ _ hge (by omega) hs.out).mono ?_; rw [szRes_no (by omega)]; rintro e w1 ⟨rfl, hb1⟩
          go_wp2_with fail
          go_ret
          exact ⟨ret_int (by rw [e0.out]), below_app hb hb1 hb.size⟩
        · go_wp2_with fail
          refine (szPick_any ⟨opt, val⟩ _ _ hge (by omega) hs.out).mono ?_; rw [szRes_yes (by omega)]; rintro e w1 ⟨rfl, hb1⟩
          go_wp2_with fail
          go_roundw
          case rel => exact ⟨k + 1, by omega, by go_num, by rw [HS.out]; go_num, by rw [HS.out]; omega, below_app hb hb1 hb.size⟩
          case measure => simp [intOf]; omega
      · obtain rfl : n = k := by omega
        have e0 := Lib.hid (show szRes left (n + sumF pkSz l n) = left - n - sumF pkSz l n by rw [szRes_yes (by omega)]; omega)
        go_wp2_with fail
        go_ret
        exact ⟨ret_int (by rw [e0.out]), hb⟩
theorem toPick_any (x : Pk) (w : World) : Calls Try.prog 48 #[pkAgg x] w fun e' w' => e' = .returned (pkAgg x) ∧ Below w.heap.size w w' := by
  obtain ⟨opt, val⟩ := x
  go_enter Try.func48, Try.ntmps48
  go_wp2
  go_returns
  exact ⟨rfl, by go_grown⟩
theorem eqPick_true (x : Pk) (w : World) : Calls Try.prog 53 #[pkAgg x, pkAgg x] w fun e' w' => e' = .returned (.bool true) ∧ Below w.heap.size w w' := by
  obtain ⟨opt, val⟩ := x
  go_enter Try.func53, Try.ntmps53
  go_wp2
  go_ret
  exact ⟨rfl, by go_grown⟩
set_option maxHeartbeats 1000000 in
theorem toPickS_any (A : Option Addr) (n c : Nat) (l : List Pk) (w : World) (hr : RS w 2 A n (l.flatMap pkCell)) (hn : n ≤ 1048576) :
    Calls Try.prog 18 #[.slice A n c] w fun e w' => ∃ A' c', e = .returned (.slice A' n c') ∧ w'.ownsRow w.heap.size 86 2 (.slice A' n c') n (l.flatMap pkCell) ∧ Below w.heap.size w w' := by
  have hl := Lib.hid (hr.flatLen pkCell_len (by omega))
  obtain ⟨i0, hi, hz0, hz1, hz2⟩ := info_parts pkInfo
  go_enter Try.func18, Try.ntmps18
  go_wp2_with (at_make; refine wpList_make_full _ rfl _ _ _ rfl w.heap.size 86 i0 _ 2 Try.underlying42 hi hz0 hz1 _ _ _ _ n rfl rfl rfl rfl (by rw [hz2]; omega) (by unfold maxLen; omega) (Nat.le_refl _) ?_; intro w1 hown1 hg1)
  have hb1 : Below w.heap.size w w1 := ⟨hg1.os, hg1.tape, hg1.output, hg1.size, fun k hk => hg1.block k hk (by simp)⟩
  clear hg1
  go_loopw [4] (fun i wr => ∃ k : Nat, k ≤ n ∧ i = .int .i64 k ∧ Below w.heap.size w wr ∧ ∃ xs, wr.ownsRow w.heap.size 86 2 (.slice (some ⟨w.heap.size, 0, none⟩) n n) n xs ∧ Hid (xs.take (k * 2) = (l.take k).flatMap pkCell)) (fun i _ => n - (intOf i).toNat)
  case atStart => exact ⟨0, Nat.zero_le _, rfl, hb1, _, hown1, by simp [Hid]⟩
  case round =>
    obtain ⟨k, hk, rfl, hb, xs, hown, htk⟩ := hrel
    clear hb1 hown1
    by_cases hlt : k < n
    · obtain ⟨g, off, rfl, ⟨opt, val⟩, hx, hpk0, hpk1⟩ := (hr.below hb).pkAt hlt
      have HX := Lib.hid hx; clear hx
      go_wp2_with (go_at_call 48; refine (toPick_any ⟨opt, val⟩ _).mono ?_; rintro e w2 ⟨rfl, hb2⟩; have hown2 := own_below hown hb2; obtain ⟨d0, hd0⟩ := own_cells hown2 (j := k * 2) (by omega); obtain ⟨d1, hd1⟩ := own_cells hown2 (j := k * 2 + 1) (by omega); have hf := fun j => hown2.frozenAt j)
      go_roundw
      case rel =>
        obtain ⟨y0, o0, t0⟩ := own_fill (.string opt) hown2 htk.out rfl (by omega)
        obtain ⟨y1, o1, t1⟩ := own_fill (.string val) o0 t0 rfl (by omega)
        refine ⟨k + 1, by omega, by go_num, ((below_app hb hb2 hb.size).setCell (Nat.le_refl _) _).setCell (Nat.le_refl _) _, y1, o1, ?_⟩
        show y1.take ((k + 1) * 2) = _
        rw [show (k + 1) * 2 = k * 2 + 1 + 1 by omega, t1, take_flat HX.out]
        simp [pkCell]
      case measure => simp [intOf]; omega
    · go_wp2
      have : k = n := by omega
      subst this
      go_ret
      refine ⟨_, _, rfl, ?_, hb⟩
      rw [take_all htk.out (own_len hown), List.take_of_length_le (by rw [hl.out]; exact Nat.le_refl _)] at hown
      exact hown
set_option maxHeartbeats 1000000 in
theorem eqPickS_true (A : Option Addr) (n c : Nat) (l : List Pk) (A' : Option Addr) (n' c' : Nat) (l' : List Pk) (w : World) (hr : RS w 2 A n (l.flatMap pkCell)) (hr' : RS w 2 A' n' (l'.flatMap pkCell)) (hn : n ≤ 9223372036854775807) (hn' : n' ≤ 9223372036854775807) (heq : l = l') :
    Calls Try.prog 21 #[.slice A n c, .slice A' n' c'] w fun e w' => e = .returned (.bool true) ∧ Below w.heap.size w w' := by
  have hl := hr.flatLen pkCell_len (by omega)
  have hl' := hr'.flatLen pkCell_len (by omega)
  obtain rfl : n = n' := by rw [← hl, ← hl', heq]
  have HE := Lib.hid heq; clear heq hl hl'
  go_enter Try.func21, Try.ntmps21
  go_wp2
  go_loopw [5] (fun i wr => ∃ k : Nat, k ≤ n ∧ i = .int .i64 k ∧ Below w.heap.size w wr) (fun i _ => n - (intOf i).toNat)
  case atStart => exact ⟨0, Nat.zero_le _, rfl, Below.refl _ _⟩
  case round =>
    obtain ⟨k, hk, rfl, hb⟩ := hrel
    by_cases hlt : k < n
    · obtain ⟨g, off, rfl, x, hx, hpk0, hpk1⟩ := (hr.below hb).pkAt hlt
      obtain ⟨g', off', rfl, x', hx', kpk0, kpk1⟩ := (hr'.below hb).pkAt hlt
      rw [HE.out, hx'] at hx
      obtain rfl : x' = x := by simpa using hx
      clear hx hx'
      obtain ⟨opt, val⟩ := x'
      have i1 : (0 : Int) ≤ k := by omega
      have i2 : (k : Int) < n := by omega
      have a0 := cell_wext hpk0; have b0 := cell_wext kpk0; have a1 := cell_wext hpk1; have b1 := cell_wext kpk1
      go_wp2
      refine wp_region_ext (by kernel_rfl) (by kernel_rfl) ?_
      repeat (go_big_quiet_step ((go_at_call 53; exact ext_call (eqPick_true ⟨opt, val⟩ _))))
      refine wpQuiet_nil ?_
      intro _ hw'; obtain ⟨nq, hw''⟩ := hw'; subst hw''
      go_wp2
      go_roundw
      case rel => exact ⟨k + 1, by omega, by go_num, below_app hb (below_wext _ _) hb.size⟩
      case measure => simp [intOf]; omega
    · go_wp2
      have : k = n := by omega
      subst this
      go_ret
      exact ⟨rfl, hb⟩
def pkMarks (k0 : Int) (N : Nat) : List Value := marksF (fun j => [true, true].getD j false) 2 k0 N
theorem pkMarks_0 (k0 : Int) (k : Nat) : pkMarks k0 (k * 2 + 1) = pkMarks k0 (k * 2) ++ [.string (mText (k0 + k * 2).toNat)] := by
  unfold pkMarks
  rw [marksF_succ]
  have e1 : (k * 2) % 2 = 0 := by omega
  have e2 : k0 + ((k * 2 : Nat) : Int) = k0 + k * 2 := by simp; try omega
  rw [e1, e2]; rfl
theorem pkMarks_at0 (k0 : Int) (n k : Nat) (h : k < n) : (pkMarks k0 (n * 2))[k * 2 + 0]? = some (.string (mText (k0 + k * 2).toNat)) := by
  unfold pkMarks
  rw [marksF_at _ _ _ (by omega)]
  have e1 : (k * 2 + 0) % 2 = 0 := by omega
  have e2 : k0 + ((k * 2 + 0 : Nat) : Int) = k0 + k * 2 := by simp; try omega
  rw [e1, e2]; rfl
theorem pkMarks_1 (k0 : Int) (k : Nat) : pkMarks k0 (k * 2 + 1 + 1) = pkMarks k0 (k * 2 + 1) ++ [.string (mText (k0 + k * 2 + 1).toNat)] := by
  unfold pkMarks
  rw [marksF_succ]
  have e1 : (k * 2 + 1) % 2 = 1 := by omega
  have e2 : k0 + ((k * 2 + 1 : Nat) : Int) = k0 + k * 2 + 1 := by simp; try omega
  rw [e1, e2]; rfl
theorem pkMarks_at1 (k0 : Int) (n k : Nat) (h : k < n) : (pkMarks k0 (n * 2))[k * 2 + 1]? = some (.string (mText (k0 + k * 2 + 1).toNat)) := by
  unfold pkMarks
  rw [marksF_at _ _ _ (by omega)]
  have e1 : (k * 2 + 1) % 2 = 1 := by omega
  have e2 : k0 + ((k * 2 + 1 : Nat) : Int) = k0 + k * 2 + 1 := by simp; try omega
  rw [e1, e2]; rfl
set_option maxRecDepth 100000 in
theorem pkOpen : FlatAs Try.prog 75 pkCell pkOk := by
  intro H enc w base spare held n cs x h
  obtain ⟨hlen, m, hf⟩ := open_fields Try.underlying75 (by kernel_rfl) (by kernel_rfl) h
  obtain ⟨v0, y0, h0, t0⟩ := hf 0 _ rfl
  obtain ⟨v1, y1, h1, t1⟩ := hf 1 _ rfl
  obtain ⟨a0, e0, _, w0⟩ := DataW.trod_string Try.underlying9 t0
  obtain ⟨a1, e1, _, w1⟩ := DataW.trod_string Try.underlying9 t1
  simp only [List.cons.injEq, and_true] at e0 e1
  subst e0 e1
  match cs, hlen with
  | [_, _], _ =>
    simp at h0 h1
    exact ⟨⟨a0, a1⟩, by simp [pkCell, h0, h1], (by unfold maxLen at w0; simp only; omega), (by unfold maxLen at w1; simp only; omega)⟩
set_option maxRecDepth 100000 in
theorem open_pks {H : Type} {enc : TypeId × Value → H} {w : World} {base : Nat} {spare : Nat → Bool} {held : Bool} {r : Reach} {b0 : Nat} {v : Value} {d : DataW H} {p : List MemPlace}
    (hv : Value.okWide Try.prog w r b0 35 v) (h : DataW.Trod enc Try.prog w base spare held 35 v d p) :
    ∃ (A : Option Addr) (n c : Nat) (l : List Pk), v = .slice A n c ∧ RS w 2 A n (l.flatMap pkCell) ∧ n ≤ 9223372036854775807 ∧ ∀ y ∈ l, pkOk y := by
  obtain ⟨a0, len, cap, rfl⟩ := okWide_slice Try.underlying35 hv
  obtain ⟨fuel, hf⟩ := h
  obtain ⟨A, n, c, l, hv, hr, hl, hn, hc, hok⟩ := open_flat (f := pkCell) Try.underlying35 (by kernel_rfl : Try.prog.cellsOf 75 = 2) (by omega) (fun _ => rfl) pkOpen (by simpa [Value.cells] using hf)
  exact ⟨A, n, c, l, hv, hr, by unfold maxLen at hc; omega, hok⟩
end Go.Proofs.Ytnhkpdaogclfjaa
