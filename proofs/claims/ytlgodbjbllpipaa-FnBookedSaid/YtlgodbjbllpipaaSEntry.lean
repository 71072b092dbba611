/- Entry: a flat struct, and slices of it: the plain words and the walks of the laws' helpers. -/
import Derived.Test.YtlgodbjbllpipaaFlat
import Derived.Laws.Rows
namespace Go.Proofs.Ytlgodbjbllpipaa
open Go.ChangeShapes Go.WideShapes Go.ChangeAt Go.RowKit Go.Deep

structure En where
  acc : ByteArray
  amt : Int
abbrev enAgg (x : En) : Value := .agg #[.string x.acc, .int .i64 x.amt]
def enCell (x : En) : List Value := [.string x.acc, .int .i64 x.amt]
def enOk (x : En) : Prop := x.acc.size ≤ 9223372036854775807 ∧ i64 x.amt
theorem enCell_len : ∀ y, (enCell y).length = 2 := fun _ => rfl
theorem enCell_one : ∀ x, ∀ u ∈ enCell x, u.oneCell' = true := by
  intro x u hu
  simp only [enCell, List.mem_cons, List.not_mem_nil, or_false] at hu
  rcases hu with rfl | rfl <;> rfl
theorem RS.enAt {w : World} {A : Option Addr} {n k : Nat} {l : List En} (h : RS w 2 A n (l.flatMap enCell)) (hk : k < n) :
    ∃ g off, A = some ⟨g, off, none⟩ ∧ ∃ y, l[k]? = some y ∧ w.cell? ⟨g, off + k * 2, none⟩ = some (.string y.acc) ∧ w.cell? ⟨g, off + k * 2 + 1, none⟩ = some (.int .i64 y.amt) := by
  obtain ⟨g, off, e, y, hy, hc⟩ := h.flatAt enCell_len (by omega) hk
  exact ⟨g, off, e, y, hy, hc 0 (by omega), hc 1 (by omega)⟩
theorem enInfo : (Try.prog.info? 66).map (fun i => (i.zero, i.size, i.bytes)) = some (some (.agg #[.string ⟨#[]⟩, .int .i64 0]), 2, 24) := by kernel_rfl
def enSz (x : En) : Int := (x.acc.size : Int)
theorem enSz_nonneg (x : En) : 0 ≤ enSz x := by unfold enSz; omega
set_option maxHeartbeats 1000000 in
theorem szEntry_any (x : En) (left : Int) (w : World) (h0 : 0 ≤ left) (h1 : left ≤ 1048576) (hs : enOk x) :
    Calls Try.prog 120 #[enAgg x, .int .i64 left] w fun e' w' => e' = .returned (.int .i64 (szRes left (enSz x))) ∧ Below w.heap.size w w' := by
  obtain ⟨acc, amt⟩ := x
  simp only [enOk] at hs
  simp only [enSz]
  have hs' : acc.size ≤ 9223372036854775807 := by omega
  clear hs
  by_cases g0 : left - acc.size < 0
  · have e0 := Lib.hid (show szRes left ((acc.size : Int)) = -1 by rw [szRes_no (by omega)])
    go_enter Try.func120, Try.ntmps120
    go_wp2
    go_ret
    exact ⟨ret_int (by rw [e0.out]), by go_grown⟩
  · have e0 := Lib.hid (show szRes left ((acc.size : Int)) = left - acc.size by rw [szRes_yes (by omega)]; try omega)
    go_enter Try.func120, Try.ntmps120
    go_wp2
    go_ret
    exact ⟨ret_int (by rw [e0.out]), by go_grown⟩
set_option maxHeartbeats 1000000 in
theorem szEntryS_any (A : Option Addr) (n c : Nat) (l : List En) (left : Int) (w : World) (hr : RS w 2 A n (l.flatMap enCell)) (hn : n ≤ 9223372036854775807) (hok : ∀ x ∈ l, enOk x) (h0 : 0 ≤ left) (h1 : left ≤ 1048576) :
    Calls Try.prog 104 #[.slice A n c, .int .i64 left] w fun e w' => e = .returned (.int .i64 (szRes left (n + sumF enSz l n))) ∧ Below w.heap.size w w' := by
  have hl := Lib.hid (hr.flatLen enCell_len (by omega))
  have NN := Lib.hid (fun k => sumF_nonneg (f := enSz) (l := l) (fun x _ => enSz_nonneg x) k)
  have MO := Lib.hid (fun k (hk : k ≤ n) => sumF_mono (f := enSz) (l := l) (fun x _ => enSz_nonneg x) hk (by rw [hl.out]; exact Nat.le_refl _))
  have OK := Lib.hid hok; clear hok
  by_cases hln : left - n < 0
  · have e0 := Lib.hid (show szRes left (n + sumF enSz l n) = -1 by rw [szRes_no (by have := NN.out n; omega)])
    go_enter Try.func104, Try.ntmps104
    go_wp2_with fail
    go_ret
    exact ⟨ret_int (by rw [e0.out]), Below.refl _ _⟩
  · go_enter Try.func104, Try.ntmps104
    go_wp2_with fail
    go_loopw [1, 5] (fun t i wr => ∃ k : Nat, k ≤ n ∧ i = .int .i64 k ∧ t = .int .i64 (left - n - sumF enSz l k) ∧ 0 ≤ left - n - sumF enSz l k ∧ Below w.heap.size w wr) (fun _ i _ => n - (intOf i).toNat)
    case atStart => exact ⟨0, Nat.zero_le _, rfl, by rw [sumF_zero]; simp, by rw [sumF_zero]; omega, Below.refl _ _⟩
    case round =>
      obtain ⟨k, hk, rfl, rfl, hge, hb⟩ := hrel
      have nn := NN.out k
      by_cases hlt : k < n
      · obtain ⟨g, off, rfl, ⟨acc, amt⟩, hx, hen0, hen1⟩ := (hr.below hb).enAt hlt
        have hs := Lib.hid (OK.out _ (List.mem_of_getElem? hx))
        have HS := Lib.hid (sumF_succ enSz hx)
        have mo := MO.out (k + 1) (by omega)
        rw [HS.out] at mo
        have sn := enSz_nonneg ⟨acc, amt⟩
        have i1 : (0 : Int) ≤ k := by omega
        have i2 : (k : Int) < n := by omega
        clear hx
        by_cases hneg : left - n - sumF enSz l k - enSz ⟨acc, amt⟩ < 0
        · have e0 := Lib.hid (show szRes left (n + sumF enSz l n) = -1 by rw [szRes_no (by omega)])
          go_wp2_with fail
          refine (szEntry_any ⟨acc, amt⟩ _ _ hge (by omega) hs.out).mono ?_; rw [szRes_no (by omega)]; rintro e w1 ⟨rfl, hb1⟩
          go_wp2_with fail
          go_ret
          exact ⟨ret_int (by rw [e0.out]), below_app hb hb1 hb.size⟩
        · go_wp2_with fail
          refine (szEntry_any ⟨acc, amt⟩ _ _ hge (by omega) hs.out).mono ?_; rw [szRes_yes (by omega)]; rintro e w1 ⟨rfl, hb1⟩
          go_wp2_with fail
          go_roundw
          case rel => exact ⟨k + 1, by omega, by go_num, by rw [HS.out]; go_num, by rw [HS.out]; omega, below_app hb hb1 hb.size⟩
          case measure => simp [intOf]; omega
      · obtain rfl : n = k := by omega
        have e0 := Lib.hid (show szRes left (n + sumF enSz l n) = left - n - sumF enSz l n by rw [szRes_yes (by omega)]; omega)
        go_wp2_with fail
        go_ret
        exact ⟨ret_int (by rw [e0.out]), hb⟩
theorem toEntry_any (x : En) (w : World) : Calls Try.prog 122 #[enAgg x] w fun e' w' => e' = .returned (enAgg x) ∧ Below w.heap.size w w' := by
  obtain ⟨acc, amt⟩ := x
  go_enter Try.func122, Try.ntmps122
  go_wp2
  go_returns
  exact ⟨rfl, by go_grown⟩
theorem eqEntry_true (x : En) (w : World) : Calls Try.prog 124 #[enAgg x, enAgg x] w fun e' w' => e' = .returned (.bool true) ∧ Below w.heap.size w w' := by
  obtain ⟨acc, amt⟩ := x
  go_enter Try.func124, Try.ntmps124
  go_wp2
  go_ret
  exact ⟨rfl, by go_grown⟩
set_option maxHeartbeats 1000000 in
theorem toEntryS_any (A : Option Addr) (n c : Nat) (l : List En) (w : World) (hr : RS w 2 A n (l.flatMap enCell)) (hn : n ≤ 1048576) :
    Calls Try.prog 107 #[.slice A n c] w fun e w' => ∃ A' c', e = .returned (.slice A' n c') ∧ w'.ownsRow w.heap.size 66 2 (.slice A' n c') n (l.flatMap enCell) ∧ Below w.heap.size w w' := by
  have hl := Lib.hid (hr.flatLen enCell_len (by omega))
  obtain ⟨i0, hi, hz0, hz1, hz2⟩ := info_parts enInfo
  go_enter Try.func107, Try.ntmps107
  go_wp2_with (at_make; refine wpList_make_full _ rfl _ _ _ rfl w.heap.size 66 i0 _ 2 Try.underlying62 hi hz0 hz1 _ _ _ _ n rfl rfl rfl rfl (by rw [hz2]; omega) (by unfold maxLen; omega) (Nat.le_refl _) ?_; intro w1 hown1 hg1)
  have hb1 : Below w.heap.size w w1 := ⟨hg1.os, hg1.tape, hg1.output, hg1.size, fun k hk => hg1.block k hk (by simp)⟩
  clear hg1
  go_loopw [4] (fun i wr => ∃ k : Nat, k ≤ n ∧ i = .int .i64 k ∧ Below w.heap.size w wr ∧ ∃ xs, wr.ownsRow w.heap.size 66 2 (.slice (some ⟨w.heap.size, 0, none⟩) n n) n xs ∧ Hid (xs.take (k * 2) = (l.take k).flatMap enCell)) (fun i _ => n - (intOf i).toNat)
  case atStart => exact ⟨0, Nat.zero_le _, rfl, hb1, _, hown1, by simp [Hid]⟩
  case round =>
    obtain ⟨k, hk, rfl, hb, xs, hown, htk⟩ := hrel
    clear hb1 hown1
    by_cases hlt : k < n
    · obtain ⟨g, off, rfl, ⟨acc, amt⟩, hx, hen0, hen1⟩ := (hr.below hb).enAt hlt
      have HX := Lib.hid hx; clear hx
      go_wp2_with (go_at_call 122; refine (toEntry_any ⟨acc, amt⟩ _).mono ?_; rintro e w2 ⟨rfl, hb2⟩; have hown2 := own_below hown hb2; obtain ⟨d0, hd0⟩ := own_cells hown2 (j := k * 2) (by omega); obtain ⟨d1, hd1⟩ := own_cells hown2 (j := k * 2 + 1) (by omega); have hf := fun j => hown2.frozenAt j)
      go_roundw
      case rel =>
        obtain ⟨y0, o0, t0⟩ := own_fill (.string acc) hown2 htk.out rfl (by omega)
        obtain ⟨y1, o1, t1⟩ := own_fill (.int .i64 amt) o0 t0 rfl (by omega)
        refine ⟨k + 1, by omega, by go_num, ((below_app hb hb2 hb.size).setCell (Nat.le_refl _) _).setCell (Nat.le_refl _) _, y1, o1, ?_⟩
        show y1.take ((k + 1) * 2) = _
        rw [show (k + 1) * 2 = k * 2 + 1 + 1 by omega, t1, take_flat HX.out]
        simp [enCell]
      case measure => simp [intOf]; omega
    · go_wp2
      have : k = n := by omega
      subst this
      go_ret
      refine ⟨_, _, rfl, ?_, hb⟩
      rw [take_all htk.out (own_len hown), List.take_of_length_le (by rw [hl.out]; exact Nat.le_refl _)] at hown
      exact hown
set_option maxHeartbeats 1000000 in
theorem eqEntryS_true (A : Option Addr) (n c : Nat) (l : List En) (A' : Option Addr) (n' c' : Nat) (l' : List En) (w : World) (hr : RS w 2 A n (l.flatMap enCell)) (hr' : RS w 2 A' n' (l'.flatMap enCell)) (hn : n ≤ 9223372036854775807) (hn' : n' ≤ 9223372036854775807) (heq : l = l') :
    Calls Try.prog 110 #[.slice A n c, .slice A' n' c'] w fun e w' => e = .returned (.bool true) ∧ Below w.heap.size w w' := by
  have hl := hr.flatLen enCell_len (by omega)
  have hl' := hr'.flatLen enCell_len (by omega)
  obtain rfl : n = n' := by rw [← hl, ← hl', heq]
  have HE := Lib.hid heq; clear heq hl hl'
  go_enter Try.func110, Try.ntmps110
  go_wp2
  go_loopw [5] (fun i wr => ∃ k : Nat, k ≤ n ∧ i = .int .i64 k ∧ Below w.heap.size w wr) (fun i _ => n - (intOf i).toNat)
  case atStart => exact ⟨0, Nat.zero_le _, rfl, Below.refl _ _⟩
  case round =>
    obtain ⟨k, hk, rfl, hb⟩ := hrel
    by_cases hlt : k < n
    · obtain ⟨g, off, rfl, x, hx, hen0, hen1⟩ := (hr.below hb).enAt hlt
      obtain ⟨g', off', rfl, x', hx', ken0, ken1⟩ := (hr'.below hb).enAt hlt
      rw [HE.out, hx'] at hx
      obtain rfl : x' = x := by simpa using hx
      clear hx hx'
      obtain ⟨acc, amt⟩ := x'
      have i1 : (0 : Int) ≤ k := by omega
      have i2 : (k : Int) < n := by omega
      have a0 := cell_wext hen0; have b0 := cell_wext ken0; have a1 := cell_wext hen1; have b1 := cell_wext ken1
      go_wp2
      refine wp_region_ext (by kernel_rfl) (by kernel_rfl) ?_
      repeat (go_big_quiet_step ((go_at_call 124; exact ext_call (eqEntry_true ⟨acc, amt⟩ _))))
      refine wpQuiet_nil ?_
      intro _ hw'; obtain ⟨nq, hw''⟩ := hw'; subst hw''
      go_wp2
      go_roundw
      case rel => exact ⟨k + 1, by omega, by go_num, below_app hb (below_wext _ _) hb.size⟩
      case measure => simp [intOf]; omega
    · go_wp2
      have : k = n := by omega
      subst this
      go_ret
      exact ⟨rfl, hb⟩
def enMarks (k0 : Int) (N : Nat) : List Value := marksF (fun j => [true, false].getD j false) 2 k0 N
theorem enMarks_0 (k0 : Int) (k : Nat) : enMarks k0 (k * 2 + 1) = enMarks k0 (k * 2) ++ [.string (mText (k0 + k * 2).toNat)] := by
  unfold enMarks
  rw [marksF_succ]
  have e1 : (k * 2) % 2 = 0 := by omega
  have e2 : k0 + ((k * 2 : Nat) : Int) = k0 + k * 2 := by simp; try omega
  rw [e1, e2]; rfl
theorem enMarks_at0 (k0 : Int) (n k : Nat) (h : k < n) : (enMarks k0 (n * 2))[k * 2 + 0]? = some (.string (mText (k0 + k * 2).toNat)) := by
  unfold enMarks
  rw [marksF_at _ _ _ (by omega)]
  have e1 : (k * 2 + 0) % 2 = 0 := by omega
  have e2 : k0 + ((k * 2 + 0 : Nat) : Int) = k0 + k * 2 := by simp; try omega
  rw [e1, e2]; rfl
theorem enMarks_1 (k0 : Int) (k : Nat) : enMarks k0 (k * 2 + 1 + 1) = enMarks k0 (k * 2 + 1) ++ [.int .i64 (k0 + k * 2 + 1)] := by
  unfold enMarks
  rw [marksF_succ]
  have e1 : (k * 2 + 1) % 2 = 1 := by omega
  have e2 : k0 + ((k * 2 + 1 : Nat) : Int) = k0 + k * 2 + 1 := by simp; try omega
  rw [e1, e2]; rfl
theorem enMarks_at1 (k0 : Int) (n k : Nat) (h : k < n) : (enMarks k0 (n * 2))[k * 2 + 1]? = some (.int .i64 (k0 + k * 2 + 1)) := by
  unfold enMarks
  rw [marksF_at _ _ _ (by omega)]
  have e1 : (k * 2 + 1) % 2 = 1 := by omega
  have e2 : k0 + ((k * 2 + 1 : Nat) : Int) = k0 + k * 2 + 1 := by simp; try omega
  rw [e1, e2]; rfl
set_option maxHeartbeats 2000000 in
theorem markEntryS_any (base : Nat) (A : Option Addr) (n c : Nat) (xs : List Value) (k0 : Int) (w : World) (ho : w.ownsRow base 66 2 (.slice A n c) n xs) (hn : n ≤ 1048600) (h0 : 1 ≤ k0) (h1 : k0 ≤ 100000000) :
    Calls Try.prog 92 #[.slice A n c, .int .i64 k0] w fun e w' => e = .returned (.int .i64 (k0 + n * 2)) ∧ w'.ownsRow base 66 2 (.slice A n c) n (enMarks k0 (n * 2)) ∧ w.grownBy w' (Value.slice A n c).ownBlock := by
  go_enter Try.func92, Try.ntmps92
  go_wp2
  go_loopw [1, 5] (fun kk i wr => ∃ k : Nat, k ≤ n ∧ i = .int .i64 k ∧ kk = .int .i64 (k0 + k * 2) ∧ w.grownBy wr (Value.slice A n c).ownBlock ∧ ∃ xs, wr.ownsRow base 66 2 (.slice A n c) n xs ∧ Hid (xs.take (k * 2) = enMarks k0 (k * 2))) (fun _ i _ => n - (intOf i).toNat)
  case atStart => exact ⟨0, Nat.zero_le _, rfl, by simp, World.grownBy.refl _ _, xs, ho, by simp [Hid, enMarks, marksF]⟩
  case round =>
    obtain ⟨k, hk, rfl, rfl, hg, xs, hown, htk⟩ := hrel
    by_cases hlt : k < n
    · obtain ⟨g, rfl, hgb, hgs, hc, hf⟩ := own_addr hown (by omega)
      clear hc hf
      have i1 : (0 : Int) ≤ k := by omega
      have i2 : (k : Int) < n := by omega
      go_wp2_with fail
      refine (markI _ _ (by omega) (by omega)).mono ?_; rintro e w0 ⟨rfl, hb0⟩
      have own0 := own_below hown hb0
      have gr0 := grown_below hg hb0
      have own0 := own0
      clear hb0
      obtain ⟨d0, hd0⟩ := own_cells own0 (j := k * 2) (by omega)
      obtain ⟨d1, hd1⟩ := own_cells own0 (j := k * 2 + 1) (by omega)
      have hf1 := fun j => own0.frozenAt j
      obtain ⟨y0, o0, t0⟩ := own_fill (.string (mText (k0 + k * 2).toNat)) own0 htk.out rfl (by omega)
      have f0 := (own0.stored (k * 2) (.string (mText (k0 + k * 2).toNat))).2
      have G0 := gr0.trans f0
      obtain ⟨y1, o1, t1⟩ := own_fill (.int .i64 (k0 + k * 2 + 1)) o0 t0 rfl (by omega)
      have f1 := (o0.stored (k * 2 + 1) (.int .i64 (k0 + k * 2 + 1))).2
      have G1 := G0.trans f1
      have T0 := Lib.hid t0; clear t0; have T1 := Lib.hid t1; clear t1
      go_wp2_with fail
      clear hd0 hd1 hf1
      go_roundw
      case rel =>
        refine ⟨k + 1, by omega, by go_num, by go_num, G1, y1, o1, ?_⟩
        have e : (k + 1) * 2 = k * 2 + 1 + 1 := by omega
        show y1.take ((k + 1) * 2) = enMarks k0 ((k + 1) * 2)
        rw [e]
        have tt := T1.out
        refine Eq.trans ?_ (tt.trans ?_)
        · rfl
        · rw [enMarks_1, enMarks_0]
      case measure => simp [intOf]; omega
    · go_wp2
      have : k = n := by omega
      subst this
      go_ret
      refine ⟨rfl, ?_, hg⟩
      rw [take_all htk.out (own_len hown)] at hown
      exact hown
set_option maxHeartbeats 2000000 in
theorem heldEntryS_any (A : Option Addr) (n c : Nat) (k0 : Int) (w : World) (hr : RS w 2 A n (enMarks k0 (n * 2))) (hn : n ≤ 1048600) (h0 : 1 ≤ k0) (h1 : k0 ≤ 100000000) :
    Calls Try.prog 95 #[.slice A n c, .int .i64 k0] w fun e w' => e = .returned (.int .i64 (k0 + n * 2)) ∧ Below w.heap.size w w' := by
  go_enter Try.func95, Try.ntmps95
  go_wp2
  go_loopw [1, 5] (fun kk i wr => ∃ k : Nat, k ≤ n ∧ i = .int .i64 k ∧ kk = .int .i64 (k0 + k * 2) ∧ Below w.heap.size w wr) (fun _ i _ => n - (intOf i).toNat)
  case atStart => exact ⟨0, Nat.zero_le _, rfl, by simp, Below.refl _ _⟩
  case round =>
    obtain ⟨k, hk, rfl, rfl, hb⟩ := hrel
    by_cases hlt : k < n
    · have i1 : (0 : Int) ≤ k := by omega
      have i2 : (k : Int) < n := by omega
      obtain ⟨g, off, rfl, c0⟩ := (hr.below hb).cell (i := 0) hlt (enMarks_at0 k0 n k hlt)
      obtain ⟨g', off', hA, c1⟩ := (hr.below hb).cell (i := 1) hlt (enMarks_at1 k0 n k hlt)
      obtain ⟨rfl, rfl⟩ : g = g' ∧ off = off' := by simpa using hA
      clear hA
      simp only [Nat.add_zero] at c0
      go_wp2_with fail
      have x0 := cell_wext c0
      refine wp_region_ext (by kernel_rfl) (by kernel_rfl) ?_
      repeat (go_big_quiet_step ((go_at_call 89; exact ext_call (markI _ _ (by omega) (by omega)))))
      refine wpQuiet_nil ?_
      intro _ hw'; obtain ⟨nq0, hw''⟩ := hw'; subst hw''
      have bq0 := below_wext wr nq0
      have c1 := cell_keep bq0 c1
      have B0 := below_app hb bq0 hb.size
      clear x0
      generalize wext wr nq0 = w0 at *
      go_wp2_with fail
      go_roundw
      case rel => exact ⟨k + 1, by omega, by go_num, by go_num, B0⟩
      case measure => simp [intOf]; omega
    · go_wp2
      have : k = n := by omega
      subst this
      go_ret
      exact ⟨rfl, hb⟩
set_option maxRecDepth 100000 in
theorem enOpen : FlatAs Try.prog 141 enCell enOk := by
  intro H enc w base spare held n cs x h
  obtain ⟨hlen, m, hf⟩ := open_fields Try.underlying141 (by kernel_rfl) (by kernel_rfl) h
  obtain ⟨v0, y0, h0, t0⟩ := hf 0 _ rfl
  obtain ⟨v1, y1, h1, t1⟩ := hf 1 _ rfl
  obtain ⟨a0, e0, _, w0⟩ := DataW.trod_string Try.underlying9 t0
  obtain ⟨a1, e1, _, w1⟩ := DataW.trod_int Try.underlying3 t1
  simp only [List.cons.injEq, and_true] at e0 e1
  subst e0 e1
  match cs, hlen with
  | [_, _], _ =>
    simp at h0 h1
    exact ⟨⟨a0, a1⟩, by simp [enCell, h0, h1], (by unfold maxLen at w0; simp only; omega), i64_of w1⟩
set_option maxRecDepth 100000 in
theorem open_ens {H : Type} {enc : TypeId × Value → H} {w : World} {base : Nat} {spare : Nat → Bool} {held : Bool} {r : Reach} {b0 : Nat} {v : Value} {d : DataW H} {p : List MemPlace}
    (hv : Value.okWide Try.prog w r b0 92 v) (h : DataW.Trod enc Try.prog w base spare held 92 v d p) :
    ∃ (A : Option Addr) (n c : Nat) (l : List En), v = .slice A n c ∧ RS w 2 A n (l.flatMap enCell) ∧ n ≤ 9223372036854775807 ∧ ∀ y ∈ l, enOk y := by
  obtain ⟨a0, len, cap, rfl⟩ := okWide_slice Try.underlying92 hv
  obtain ⟨fuel, hf⟩ := h
  obtain ⟨A, n, c, l, hv, hr, hl, hn, hc, hok⟩ := open_flat (f := enCell) Try.underlying92 (by kernel_rfl : Try.prog.cellsOf 141 = 2) (by omega) (fun _ => rfl) enOpen (by simpa [Value.cells] using hf)
  exact ⟨A, n, c, l, hv, hr, by unfold maxLen at hc; omega, hok⟩
end Go.Proofs.Ytlgodbjbllpipaa
