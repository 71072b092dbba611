/- Shipment: a flat struct, and slices of it: the plain words and the walks of the laws' helpers. -/
import Derived.Test.YtaldlinekipblaaFlat
import Derived.Laws.Rows
namespace Go.Proofs.Ytaldlinekipblaa
open Go.ChangeShapes Go.WideShapes Go.ChangeAt Go.RowKit Go.Deep

structure Sh where
  batch : ByteArray
  cust : ByteArray
abbrev shAgg (x : Sh) : Value := .agg #[.string x.batch, .string x.cust]
def shCell (x : Sh) : List Value := [.string x.batch, .string x.cust]
def shOk (x : Sh) : Prop := x.batch.size ≤ 9223372036854775807 ∧ x.cust.size ≤ 9223372036854775807
theorem shCell_len : ∀ y, (shCell y).length = 2 := fun _ => rfl
theorem shCell_one : ∀ x, ∀ u ∈ shCell x, u.oneCell' = true := by
  intro x u hu
  simp only [shCell, List.mem_cons, List.not_mem_nil, or_false] at hu
  rcases hu with rfl | rfl <;> rfl
theorem RS.shAt {w : World} {A : Option Addr} {n k : Nat} {l : List Sh} (h : RS w 2 A n (l.flatMap shCell)) (hk : k < n) :
    ∃ g off, A = some ⟨g, off, none⟩ ∧ ∃ y, l[k]? = some y ∧ w.cell? ⟨g, off + k * 2, none⟩ = some (.string y.batch) ∧ w.cell? ⟨g, off + k * 2 + 1, none⟩ = some (.string y.cust) := by
  obtain ⟨g, off, e, y, hy, hc⟩ := h.flatAt shCell_len (by omega) hk
  exact ⟨g, off, e, y, hy, hc 0 (by omega), hc 1 (by omega)⟩
theorem shInfo : (Try.prog.info? 51).map (fun i => (i.zero, i.size, i.bytes)) = some (some (.agg #[.string ⟨#[]⟩, .string ⟨#[]⟩]), 2, 32) := by kernel_rfl
def shSz (x : Sh) : Int := (x.batch.size : Int) + (x.cust.size : Int)
theorem shSz_nonneg (x : Sh) : 0 ≤ shSz x := by unfold shSz; omega
set_option maxHeartbeats 1000000 in
theorem szShipment_any (x : Sh) (left : Int) (w : World) (h0 : 0 ≤ left) (h1 : left ≤ 1048576) (hs : shOk x) :
    Calls Try.prog 42 #[shAgg x, .int .i64 left] w fun e' w' => e' = .returned (.int .i64 (szRes left (shSz x))) ∧ Below w.heap.size w w' := by
  obtain ⟨batch, cust⟩ := x
  simp only [shOk] at hs
  simp only [shSz]
  have hs' : batch.size ≤ 9223372036854775807 ∧ cust.size ≤ 9223372036854775807 := by omega
  clear hs
  obtain ⟨z0, z1⟩ := hs'
  by_cases g0 : left - batch.size < 0
  · have e0 := Lib.hid (show szRes left ((batch.size : Int) + (cust.size : Int)) = -1 by rw [szRes_no (by omega)])
    go_enter Try.func42, Try.ntmps42
    go_wp2
    go_ret
    exact ⟨ret_int (by rw [e0.out]), by go_grown⟩
  ·
    by_cases g1 : left - batch.size - cust.size < 0
    · have e0 := Lib.hid (show szRes left ((batch.size : Int) + (cust.size : Int)) = -1 by rw [szRes_no (by omega)])
      go_enter Try.func42, Try.ntmps42
      go_wp2
      go_ret
      exact ⟨ret_int (by rw [e0.out]), by go_grown⟩
    · have e0 := Lib.hid (show szRes left ((batch.size : Int) + (cust.size : Int)) = left - batch.size - cust.size by rw [szRes_yes (by omega)]; try omega)
      go_enter Try.func42, Try.ntmps42
      go_wp2
      go_ret
      exact ⟨ret_int (by rw [e0.out]), by go_grown⟩
set_option maxHeartbeats 1000000 in
theorem szShipmentS_any (A : Option Addr) (n c : Nat) (l : List Sh) (left : Int) (w : World) (hr : RS w 2 A n (l.flatMap shCell)) (hn : n ≤ 9223372036854775807) (hok : ∀ x ∈ l, shOk x) (h0 : 0 ≤ left) (h1 : left ≤ 1048576) :
    Calls Try.prog 19 #[.slice A n c, .int .i64 left] w fun e w' => e = .returned (.int .i64 (szRes left (n + sumF shSz l n))) ∧ Below w.heap.size w w' := by
  have hl := Lib.hid (hr.flatLen shCell_len (by omega))
  have NN := Lib.hid (fun k => sumF_nonneg (f := shSz) (l := l) (fun x _ => shSz_nonneg x) k)
  have MO := Lib.hid (fun k (hk : k ≤ n) => sumF_mono (f := shSz) (l := l) (fun x _ => shSz_nonneg x) hk (by rw [hl.out]; exact Nat.le_refl _))
  have OK := Lib.hid hok; clear hok
  by_cases hln : left - n < 0
  · have e0 := Lib.hid (show szRes left (n + sumF shSz l n) = -1 by rw [szRes_no (by have := NN.out n; omega)])
    go_enter Try.func19, Try.ntmps19
    go_wp2_with fail
    go_ret
    exact ⟨ret_int (by rw [e0.out]), Below.refl _ _⟩
  · go_enter Try.func19, Try.ntmps19
    go_wp2_with fail
    go_loopw [1, 5] (fun t i wr => ∃ k : Nat, k ≤ n ∧ i = .int .i64 k ∧ t = .int .i64 (left - n - sumF shSz l k) ∧ 0 ≤ left - n - sumF shSz l k ∧ Below w.heap.size w wr) (fun _ i _ => n - (intOf i).toNat)
    case atStart => exact ⟨0, Nat.zero_le _, rfl, by rw [sumF_zero]; simp, by rw [sumF_zero]; omega, Below.refl _ _⟩
    case round =>
      obtain ⟨k, hk, rfl, rfl, hge, hb⟩ := hrel
      have nn := NN.out k
      by_cases hlt : k < n
      · obtain ⟨g, off, rfl, ⟨batch, cust⟩, hx, hsh0, hsh1⟩ := (hr.below hb).shAt hlt
        have hs := Lib.hid (OK.out _ (List.mem_of_getElem? hx))
        have HS := Lib.hid (sumF_succ shSz hx)
        have mo := MO.out (k + 1) (by omega)
        rw [HS.out] at mo
        have sn := shSz_nonneg ⟨batch, cust⟩
        have i1 : (0 : Int) ≤ k := by omega
        have i2 : (k : Int) < n := by omega
        clear hx
        by_cases hneg : left - n - sumF shSz l k - shSz ⟨batch, cust⟩ < 0
        · have e0 := Lib.hid (show szRes left (n + sumF shSz l n) = -1 by rw [szRes_no (by omega)])
          go_wp2_with fail
          refine (szShipment_any ⟨batch, cust⟩ _ _ hge (by omega) hs.out).mono ?_; rw [szRes_no (by omega)]; rintro e w1 ⟨rfl, hb1⟩
          go_wp2_with fail
          go_ret
          exact ⟨ret_int (by rw [e0.out]), below_app hb hb1 hb.size⟩
        · go_wp2_with fail
          refine (szShipment_any ⟨batch, cust⟩ _ _ hge (by omega) hs.out).mono ?_; rw [szRes_yes (by omega)]; rintro e w1 ⟨rfl, hb1⟩
          go_wp2_with fail
          go_roundw
          case rel => exact ⟨k + 1, by omega, by go_num, by rw [HS.out]; go_num, by rw [HS.out]; omega, below_app hb hb1 hb.size⟩
          case measure => simp [intOf]; omega
      · obtain rfl : n = k := by omega
        have e0 := Lib.hid (show szRes left (n + sumF shSz l n) = left - n - sumF shSz l n by rw [szRes_yes (by omega)]; omega)
        go_wp2_with fail
        go_ret
        exact ⟨ret_int (by rw [e0.out]), hb⟩
theorem toShipment_any (x : Sh) (w : World) : Calls Try.prog 45 #[shAgg x] w fun e' w' => e' = .returned (shAgg x) ∧ Below w.heap.size w w' := by
  obtain ⟨batch, cust⟩ := x
  go_enter Try.func45, Try.ntmps45
  go_wp2
  go_returns
  exact ⟨rfl, by go_grown⟩
theorem eqShipment_true (x : Sh) (w : World) : Calls Try.prog 49 #[shAgg x, shAgg x] w fun e' w' => e' = .returned (.bool true) ∧ Below w.heap.size w w' := by
  obtain ⟨batch, cust⟩ := x
  go_enter Try.func49, Try.ntmps49
  go_wp2
  go_ret
  exact ⟨rfl, by go_grown⟩
set_option maxHeartbeats 1000000 in
theorem toShipmentS_any (A : Option Addr) (n c : Nat) (l : List Sh) (w : World) (hr : RS w 2 A n (l.flatMap shCell)) (hn : n ≤ 1048576) :
    Calls Try.prog 21 #[.slice A n c] w fun e w' => ∃ A' c', e = .returned (.slice A' n c') ∧ w'.ownsRow w.heap.size 51 2 (.slice A' n c') n (l.flatMap shCell) ∧ Below w.heap.size w w' := by
  have hl := Lib.hid (hr.flatLen shCell_len (by omega))
  obtain ⟨i0, hi, hz0, hz1, hz2⟩ := info_parts shInfo
  go_enter Try.func21, Try.ntmps21
  go_wp2_with (at_make; refine wpList_make_full _ rfl _ _ _ rfl w.heap.size 51 i0 _ 2 Try.underlying36 hi hz0 hz1 _ _ _ _ n rfl rfl rfl rfl (by rw [hz2]; omega) (by unfold maxLen; omega) (Nat.le_refl _) ?_; intro w1 hown1 hg1)
  have hb1 : Below w.heap.size w w1 := ⟨hg1.os, hg1.tape, hg1.output, hg1.size, fun k hk => hg1.block k hk (by simp)⟩
  clear hg1
  go_loopw [4] (fun i wr => ∃ k : Nat, k ≤ n ∧ i = .int .i64 k ∧ Below w.heap.size w wr ∧ ∃ xs, wr.ownsRow w.heap.size 51 2 (.slice (some ⟨w.heap.size, 0, none⟩) n n) n xs ∧ Hid (xs.take (k * 2) = (l.take k).flatMap shCell)) (fun i _ => n - (intOf i).toNat)
  case atStart => exact ⟨0, Nat.zero_le _, rfl, hb1, _, hown1, by simp [Hid]⟩
  case round =>
    obtain ⟨k, hk, rfl, hb, xs, hown, htk⟩ := hrel
    clear hb1 hown1
    by_cases hlt : k < n
    · obtain ⟨g, off, rfl, ⟨batch, cust⟩, hx, hsh0, hsh1⟩ := (hr.below hb).shAt hlt
      have HX := Lib.hid hx; clear hx
      go_wp2_with (go_at_call 45; refine (toShipment_any ⟨batch, cust⟩ _).mono ?_; rintro e w2 ⟨rfl, hb2⟩; have hown2 := own_below hown hb2; obtain ⟨d0, hd0⟩ := own_cells hown2 (j := k * 2) (by omega); obtain ⟨d1, hd1⟩ := own_cells hown2 (j := k * 2 + 1) (by omega); have hf := fun j => hown2.frozenAt j)
      go_roundw
      case rel =>
        obtain ⟨y0, o0, t0⟩ := own_fill (.string batch) hown2 htk.out rfl (by omega)
        obtain ⟨y1, o1, t1⟩ := own_fill (.string cust) o0 t0 rfl (by omega)
        refine ⟨k + 1, by omega, by go_num, ((below_app hb hb2 hb.size).setCell (Nat.le_refl _) _).setCell (Nat.le_refl _) _, y1, o1, ?_⟩
        show y1.take ((k + 1) * 2) = _
        rw [show (k + 1) * 2 = k * 2 + 1 + 1 by omega, t1, take_flat HX.out]
        simp [shCell]
      case measure => simp [intOf]; omega
    · go_wp2
      have : k = n := by omega
      subst this
      go_ret
      refine ⟨_, _, rfl, ?_, hb⟩
      rw [take_all htk.out (own_len hown), List.take_of_length_le (by rw [hl.out]; exact Nat.le_refl _)] at hown
      exact hown
set_option maxHeartbeats 1000000 in
theorem eqShipmentS_true (A : Option Addr) (n c : Nat) (l : List Sh) (A' : Option Addr) (n' c' : Nat) (l' : List Sh) (w : World) (hr : RS w 2 A n (l.flatMap shCell)) (hr' : RS w 2 A' n' (l'.flatMap shCell)) (hn : n ≤ 9223372036854775807) (hn' : n' ≤ 9223372036854775807) (heq : l = l') :
    Calls Try.prog 23 #[.slice A n c, .slice A' n' c'] w fun e w' => e = .returned (.bool true) ∧ Below w.heap.size w w' := by
  have hl := hr.flatLen shCell_len (by omega)
  have hl' := hr'.flatLen shCell_len (by omega)
  obtain rfl : n = n' := by rw [← hl, ← hl', heq]
  have HE := Lib.hid heq; clear heq hl hl'
  go_enter Try.func23, Try.ntmps23
  go_wp2
  go_loopw [5] (fun i wr => ∃ k : Nat, k ≤ n ∧ i = .int .i64 k ∧ Below w.heap.size w wr) (fun i _ => n - (intOf i).toNat)
  case atStart => exact ⟨0, Nat.zero_le _, rfl, Below.refl _ _⟩
  case round =>
    obtain ⟨k, hk, rfl, hb⟩ := hrel
    by_cases hlt : k < n
    · obtain ⟨g, off, rfl, x, hx, hsh0, hsh1⟩ := (hr.below hb).shAt hlt
      obtain ⟨g', off', rfl, x', hx', ksh0, ksh1⟩ := (hr'.below hb).shAt hlt
      rw [HE.out, hx'] at hx
      obtain rfl : x' = x := by simpa using hx
      clear hx hx'
      obtain ⟨batch, cust⟩ := x'
      have i1 : (0 : Int) ≤ k := by omega
      have i2 : (k : Int) < n := by omega
      have a0 := cell_wext hsh0; have b0 := cell_wext ksh0; have a1 := cell_wext hsh1; have b1 := cell_wext ksh1
      go_wp2
      refine wp_region_ext (by kernel_rfl) (by kernel_rfl) ?_
      repeat (go_big_quiet_step ((go_at_call 49; exact ext_call (eqShipment_true ⟨batch, cust⟩ _))))
      refine wpQuiet_nil ?_
      intro _ hw'; obtain ⟨nq, hw''⟩ := hw'; subst hw''
      go_wp2
      go_roundw
      case rel => exact ⟨k + 1, by omega, by go_num, below_app hb (below_wext _ _) hb.size⟩
      case measure => simp [intOf]; omega
    · go_wp2
      have : k = n := by omega
      subst this
      go_ret
      exact ⟨rfl, hb⟩
def shMarks (k0 : Int) (N : Nat) : List Value := marksF (fun j => [true, true].getD j false) 2 k0 N
theorem shMarks_0 (k0 : Int) (k : Nat) : shMarks k0 (k * 2 + 1) = shMarks k0 (k * 2) ++ [.string (mText (k0 + k * 2).toNat)] := by
  unfold shMarks
  rw [marksF_succ]
  have e1 : (k * 2) % 2 = 0 := by omega
  have e2 : k0 + ((k * 2 : Nat) : Int) = k0 + k * 2 := by simp; try omega
  rw [e1, e2]; rfl
theorem shMarks_at0 (k0 : Int) (n k : Nat) (h : k < n) : (shMarks k0 (n * 2))[k * 2 + 0]? = some (.string (mText (k0 + k * 2).toNat)) := by
  unfold shMarks
  rw [marksF_at _ _ _ (by omega)]
  have e1 : (k * 2 + 0) % 2 = 0 := by omega
  have e2 : k0 + ((k * 2 + 0 : Nat) : Int) = k0 + k * 2 := by simp; try omega
  rw [e1, e2]; rfl
theorem shMarks_1 (k0 : Int) (k : Nat) : shMarks k0 (k * 2 + 1 + 1) = shMarks k0 (k * 2 + 1) ++ [.string (mText (k0 + k * 2 + 1).toNat)] := by
  unfold shMarks
  rw [marksF_succ]
  have e1 : (k * 2 + 1) % 2 = 1 := by omega
  have e2 : k0 + ((k * 2 + 1 : Nat) : Int) = k0 + k * 2 + 1 := by simp; try omega
  rw [e1, e2]; rfl
theorem shMarks_at1 (k0 : Int) (n k : Nat) (h : k < n) : (shMarks k0 (n * 2))[k * 2 + 1]? = some (.string (mText (k0 + k * 2 + 1).toNat)) := by
  unfold shMarks
  rw [marksF_at _ _ _ (by omega)]
  have e1 : (k * 2 + 1) % 2 = 1 := by omega
  have e2 : k0 + ((k * 2 + 1 : Nat) : Int) = k0 + k * 2 + 1 := by simp; try omega
  rw [e1, e2]; rfl
set_option maxHeartbeats 2000000 in
theorem markShipmentS_any (base : Nat) (A : Option Addr) (n c : Nat) (xs : List Value) (k0 : Int) (w : World) (ho : w.ownsRow base 51 2 (.slice A n c) n xs) (hn : n ≤ 1048600) (h0 : 1 ≤ k0) (h1 : k0 ≤ 100000000) :
    Calls Try.prog 24 #[.slice A n c, .int .i64 k0] w fun e w' => e = .returned (.int .i64 (k0 + n * 2)) ∧ w'.ownsRow base 51 2 (.slice A n c) n (shMarks k0 (n * 2)) ∧ w.grownBy w' (Value.slice A n c).ownBlock := by
  go_enter Try.func24, Try.ntmps24
  go_wp2
  go_loopw [1, 5] (fun kk i wr => ∃ k : Nat, k ≤ n ∧ i = .int .i64 k ∧ kk = .int .i64 (k0 + k * 2) ∧ w.grownBy wr (Value.slice A n c).ownBlock ∧ ∃ xs, wr.ownsRow base 51 2 (.slice A n c) n xs ∧ Hid (xs.take (k * 2) = shMarks k0 (k * 2))) (fun _ i _ => n - (intOf i).toNat)
  case atStart => exact ⟨0, Nat.zero_le _, rfl, by simp, World.grownBy.refl _ _, xs, ho, by simp [Hid, shMarks, marksF]⟩
  case round =>
    obtain ⟨k, hk, rfl, rfl, hg, xs, hown, htk⟩ := hrel
    by_cases hlt : k < n
    · obtain ⟨g, rfl, hgb, hgs, hc, hf⟩ := own_addr hown (by omega)
      clear hc hf
      have i1 : (0 : Int) ≤ k := by omega
      have i2 : (k : Int) < n := by omega
      go_wp2_with fail
      refine (markI _ _ (by omega) (by omega)).mono ?_; rintro e w0 ⟨rfl, hb0⟩
      have own0 := own_below hown hb0
      have gr0 := grown_below hg hb0
      have own0 := own0
      clear hb0
      obtain ⟨d0, hd0⟩ := own_cells own0 (j := k * 2) (by omega)
      have hf1 := fun j => own0.frozenAt j
      obtain ⟨y0, o0, t0⟩ := own_fill (.string (mText (k0 + k * 2).toNat)) own0 htk.out rfl (by omega)
      have f0 := (own0.stored (k * 2) (.string (mText (k0 + k * 2).toNat))).2
      have G0 := gr0.trans f0
      have T0 := Lib.hid t0; clear t0
      go_wp2_with fail
      clear hd0 hf1
      refine (markI _ _ (by omega) (by omega)).mono ?_; rintro e w1 ⟨rfl, hb1⟩
      have own1 := own_below o0 hb1
      have gr1 := grown_below G0 hb1
      have own1 := own1
      clear hb1
      obtain ⟨d1, hd1⟩ := own_cells own1 (j := k * 2 + 1) (by omega)
      have hf2 := fun j => own1.frozenAt j
      obtain ⟨y1, o1, t1⟩ := own_fill (.string (mText (k0 + k * 2 + 1).toNat)) own1 T0.out rfl (by omega)
      have f1 := (own1.stored (k * 2 + 1) (.string (mText (k0 + k * 2 + 1).toNat))).2
      have G1 := gr1.trans f1
      have T1 := Lib.hid t1; clear t1
      go_wp2_with fail
      clear hd1 hf2
      go_roundw
      case rel =>
        refine ⟨k + 1, by omega, by go_num, by go_num, G1, y1, o1, ?_⟩
        have e : (k + 1) * 2 = k * 2 + 1 + 1 := by omega
        show y1.take ((k + 1) * 2) = shMarks k0 ((k + 1) * 2)
        rw [e]
        have tt := T1.out
        refine Eq.trans ?_ (tt.trans ?_)
        · rfl
        · rw [shMarks_1, shMarks_0]
      case measure => simp [intOf]; omega
    · go_wp2
      have : k = n := by omega
      subst this
      go_ret
      refine ⟨rfl, ?_, hg⟩
      rw [take_all htk.out (own_len hown)] at hown
      exact hown
set_option maxRecDepth 100000 in
theorem shOpen : FlatAs Try.prog 65 shCell shOk := by
  intro H enc w base spare held n cs x h
  obtain ⟨hlen, m, hf⟩ := open_fields Try.underlying65 (by kernel_rfl) (by kernel_rfl) h
  obtain ⟨v0, y0, h0, t0⟩ := hf 0 _ rfl
  obtain ⟨v1, y1, h1, t1⟩ := hf 1 _ rfl
  obtain ⟨a0, e0, _, w0⟩ := DataW.trod_string Try.underlying9 t0
  obtain ⟨a1, e1, _, w1⟩ := DataW.trod_string Try.underlying9 t1
  simp only [List.cons.injEq, and_true] at e0 e1
  subst e0 e1
  match cs, hlen with
  | [_, _], _ =>
    simp at h0 h1
    exact ⟨⟨a0, a1⟩, by simp [shCell, h0, h1], (by unfold maxLen at w0; simp only; omega), (by unfold maxLen at w1; simp only; omega)⟩
set_option maxRecDepth 100000 in
theorem open_shs {H : Type} {enc : TypeId × Value → H} {w : World} {base : Nat} {spare : Nat → Bool} {held : Bool} {r : Reach} {b0 : Nat} {v : Value} {d : DataW H} {p : List MemPlace}
    (hv : Value.okWide Try.prog w r b0 33 v) (h : DataW.Trod enc Try.prog w base spare held 33 v d p) :
    ∃ (A : Option Addr) (n c : Nat) (l : List Sh), v = .slice A n c ∧ RS w 2 A n (l.flatMap shCell) ∧ n ≤ 9223372036854775807 ∧ ∀ y ∈ l, shOk y := by
  obtain ⟨a0, len, cap, rfl⟩ := okWide_slice Try.underlying33 hv
  obtain ⟨fuel, hf⟩ := h
  obtain ⟨A, n, c, l, hv, hr, hl, hn, hc, hok⟩ := open_flat (f := shCell) Try.underlying33 (by kernel_rfl : Try.prog.cellsOf 65 = 2) (by omega) (fun _ => rfl) shOpen (by simpa [Value.cells] using hf)
  exact ⟨A, n, c, l, hv, hr, by unfold maxLen at hc; omega, hok⟩
end Go.Proofs.Ytaldlinekipblaa
