/- Slices of texts: the plain words and the walks of the laws' helpers. -/
import Derived.Test.YtaldlinekipblaaFlat
import Derived.Test.YtaldlinekipblaaTextEq
import Derived.Laws.Rows
namespace Go.Proofs.Ytaldlinekipblaa
open Go.ChangeShapes Go.WideShapes Go.ChangeAt Go.RowKit Go.Deep

def stCell (s : ByteArray) : List Value := [.string s]
def stOk (s : ByteArray) : Prop := s.size ≤ 9223372036854775807
theorem stCell_len : ∀ y, (stCell y).length = 1 := fun _ => rfl
theorem stCell_one : ∀ x, ∀ u ∈ stCell x, u.oneCell' = true := by
  intro x u hu
  simp only [stCell, List.mem_cons, List.not_mem_nil, or_false] at hu
  subst hu; rfl
theorem st_flat (l : List ByteArray) : l.flatMap stCell = l.map Value.string := by
  induction l with
  | nil => rfl
  | cons x l ih => rw [List.flatMap_cons, ih]; rfl
theorem RS.stAt {w : World} {A : Option Addr} {n k : Nat} {l : List ByteArray} (h : RS w 1 A n (l.flatMap stCell)) (hk : k < n) :
    ∃ g off, A = some ⟨g, off, none⟩ ∧ ∃ y, l[k]? = some y ∧ w.cell? ⟨g, off + k, none⟩ = some (.string y) := by
  obtain ⟨g, off, e, y, hy, hc⟩ := h.flatAt stCell_len (by omega) hk
  exact ⟨g, off, e, y, hy, by simpa [stCell] using hc 0 (by omega)⟩
theorem stInfo : (Try.prog.info? 9).map (fun i => (i.zero, i.size, i.bytes)) = some (some (.string ⟨#[]⟩), 1, 16) := by kernel_rfl
def stSz (x : ByteArray) : Int := x.size
theorem stSz_nonneg (x : ByteArray) : 0 ≤ stSz x := by unfold stSz; omega
set_option maxHeartbeats 1000000 in
theorem szStringS_any (A : Option Addr) (n c : Nat) (l : List ByteArray) (left : Int) (w : World) (hr : RS w 1 A n (l.flatMap stCell)) (hn : n ≤ 9223372036854775807) (hok : ∀ x ∈ l, stOk x) (h0 : 0 ≤ left) (h1 : left ≤ 1048576) :
    Calls Try.prog 25 #[.slice A n c, .int .i64 left] w fun e w' => e = .returned (.int .i64 (szRes left (n + sumF stSz l n))) ∧ Below w.heap.size w w' := by
  have hl := Lib.hid (hr.flatLen stCell_len (by omega))
  have NN := Lib.hid (fun k => sumF_nonneg (f := stSz) (l := l) (fun x _ => stSz_nonneg x) k)
  have MO := Lib.hid (fun k (hk : k ≤ n) => sumF_mono (f := stSz) (l := l) (fun x _ => stSz_nonneg x) hk (by rw [hl.out]; exact Nat.le_refl _))
  have OK := Lib.hid hok; clear hok
  by_cases hln : left - n < 0
  · have e0 := Lib.hid (show szRes left (n + sumF stSz l n) = -1 by rw [szRes_no (by have := NN.out n; omega)])
    go_enter Try.func25, Try.ntmps25
    go_wp2_with fail
    go_ret
    exact ⟨ret_int (by rw [e0.out]), Below.refl _ _⟩
  · go_enter Try.func25, Try.ntmps25
    go_wp2_with fail
    go_loopw [1, 5] (fun t i wr => ∃ k : Nat, k ≤ n ∧ i = .int .i64 k ∧ t = .int .i64 (left - n - sumF stSz l k) ∧ 0 ≤ left - n - sumF stSz l k ∧ Below w.heap.size w wr) (fun _ i _ => n - (intOf i).toNat)
    case atStart => exact ⟨0, Nat.zero_le _, rfl, by rw [sumF_zero]; simp, by rw [sumF_zero]; omega, Below.refl _ _⟩
    case round =>
      obtain ⟨k, hk, rfl, rfl, hge, hb⟩ := hrel
      have nn := NN.out k
      by_cases hlt : k < n
      · obtain ⟨g, off, rfl, s, hx, hus0⟩ := (hr.below hb).stAt hlt
        have hs := OK.out _ (List.mem_of_getElem? hx)
        unfold stOk at hs
        have HS := Lib.hid (show sumF stSz l (k + 1) = sumF stSz l k + s.size by rw [sumF_succ stSz hx]; rfl)
        have mo := MO.out (k + 1) (by omega)
        rw [HS.out] at mo
        have i1 : (0 : Int) ≤ k := by omega
        have i2 : (k : Int) < n := by omega
        clear hx
        by_cases hneg : left - n - sumF stSz l k - s.size < 0
        · have e0 := Lib.hid (show szRes left (n + sumF stSz l n) = -1 by rw [szRes_no (by omega)])
          go_wp2_with fail
          go_ret
          exact ⟨ret_int (by rw [e0.out]), hb⟩
        · go_wp2_with fail
          go_roundw
          case rel => exact ⟨k + 1, by omega, by go_num, by rw [HS.out]; go_num, by rw [HS.out]; omega, hb⟩
          case measure => simp [intOf]; omega
      · obtain rfl : n = k := by omega
        have e0 := Lib.hid (show szRes left (n + sumF stSz l n) = left - n - sumF stSz l n by rw [szRes_yes (by omega)]; omega)
        go_wp2_with fail
        go_ret
        exact ⟨ret_int (by rw [e0.out]), hb⟩
set_option maxHeartbeats 1000000 in
theorem toStringS_any (A : Option Addr) (n c : Nat) (l : List ByteArray) (w : World) (hr : RS w 1 A n (l.flatMap stCell)) (hn : n ≤ 1048576) :
    Calls Try.prog 27 #[.slice A n c] w fun e w' => ∃ A' c', e = .returned (.slice A' n c') ∧ w'.ownsRow w.heap.size 9 1 (.slice A' n c') n (l.flatMap stCell) ∧ Below w.heap.size w w' := by
  have hl := Lib.hid (hr.flatLen stCell_len (by omega))
  obtain ⟨i0, hi, hz0, hz1, hz2⟩ := info_parts stInfo
  go_enter Try.func27, Try.ntmps27
  go_wp2_with (at_make; refine wpList_make_full _ rfl _ _ _ rfl w.heap.size 9 i0 _ 1 Try.underlying24 hi hz0 hz1 _ _ _ _ n rfl rfl rfl rfl (by rw [hz2]; omega) (by unfold maxLen; omega) (Nat.le_refl _) ?_; intro w1 hown1 hg1)
  have hb1 : Below w.heap.size w w1 := ⟨hg1.os, hg1.tape, hg1.output, hg1.size, fun k hk => hg1.block k hk (by simp)⟩
  clear hg1
  go_loopw [4] (fun i wr => ∃ k : Nat, k ≤ n ∧ i = .int .i64 k ∧ Below w.heap.size w wr ∧ ∃ xs, wr.ownsRow w.heap.size 9 1 (.slice (some ⟨w.heap.size, 0, none⟩) n n) n xs ∧ Hid (xs.take k = (l.take k).flatMap stCell)) (fun i _ => n - (intOf i).toNat)
  case atStart => exact ⟨0, Nat.zero_le _, rfl, hb1, _, hown1, by simp [Hid]⟩
  case round =>
    obtain ⟨k, hk, rfl, hb, xs, hown, htk⟩ := hrel
    clear hb1 hown1
    by_cases hlt : k < n
    · obtain ⟨g, off, rfl, x, hx, hc⟩ := (hr.below hb).stAt hlt
      have HX := Lib.hid hx; clear hx
      obtain ⟨d0, hd0⟩ := own_cells hown (j := k) (by omega)
      have hf := fun j => hown.frozenAt j
      have i1 : (0 : Int) ≤ k := by omega
      have i2 : (k : Int) < n := by omega
      go_wp2
      go_roundw
      case rel =>
        obtain ⟨y0, o0, t0⟩ := own_fill (.string x) hown htk.out rfl (by omega)
        refine ⟨k + 1, by omega, by go_num, hb.setCell (Nat.le_refl _) _, y0, o0, ?_⟩
        show y0.take (k + 1) = _
        rw [t0, take_flat HX.out]; rfl
      case measure => simp [intOf]; omega
    · go_wp2
      have : k = n := by omega
      subst this
      go_ret
      refine ⟨_, _, rfl, ?_, hb⟩
      rw [take_all htk.out ((own_len hown).trans (by simp)), List.take_of_length_le (by rw [hl.out]; exact Nat.le_refl _)] at hown
      exact hown
set_option maxHeartbeats 1000000 in
theorem eqStringS_true (A : Option Addr) (n c : Nat) (l : List ByteArray) (A' : Option Addr) (n' c' : Nat) (l' : List ByteArray) (w : World) (hr : RS w 1 A n (l.flatMap stCell)) (hr' : RS w 1 A' n' (l'.flatMap stCell)) (hn : n ≤ 9223372036854775807) (hn' : n' ≤ 9223372036854775807) (heq : l = l') :
    Calls Try.prog 12 #[.slice A n c, .slice A' n' c'] w fun e w' => e = .returned (.bool true) ∧ Below w.heap.size w w' := by
  have hl := hr.flatLen stCell_len (by omega)
  have hl' := hr'.flatLen stCell_len (by omega)
  obtain rfl : n = n' := by rw [← hl, ← hl', heq]
  have HE := Lib.hid heq; clear heq hl hl'
  go_enter Try.func12, Try.ntmps12
  go_wp2
  go_loopw [5] (fun i wr => ∃ k : Nat, k ≤ n ∧ i = .int .i64 k ∧ Below w.heap.size w wr) (fun i _ => n - (intOf i).toNat)
  case atStart => exact ⟨0, Nat.zero_le _, rfl, Below.refl _ _⟩
  case round =>
    obtain ⟨k, hk, rfl, hb⟩ := hrel
    by_cases hlt : k < n
    · obtain ⟨g, off, rfl, x, hx, hc⟩ := (hr.below hb).stAt hlt
      obtain ⟨g', off', rfl, x', hx', hc'⟩ := (hr'.below hb).stAt hlt
      rw [HE.out, hx'] at hx
      obtain rfl : x' = x := by simpa using hx
      clear hx hx'
      have i1 : (0 : Int) ≤ k := by omega
      have i2 : (k : Int) < n := by omega
      go_wp2
      go_quiet (fail)
      go_wp2
      go_roundw
      case rel => exact ⟨k + 1, by omega, by go_num, below_drewN hb _⟩
      case measure => simp [intOf]; omega
    · go_wp2
      have : k = n := by omega
      subst this
      go_ret
      exact ⟨rfl, hb⟩
def stMarks (k0 : Int) (N : Nat) : List Value := (List.range N).map fun (i : Nat) => Value.string (mText (k0 + (i : Int)).toNat)
theorem stMarks_succ (k0 : Int) (N : Nat) : stMarks k0 (N + 1) = stMarks k0 N ++ [.string (mText (k0 + (N : Int)).toNat)] := by simp [stMarks, List.range_succ]
theorem stMarks_len (k0 : Int) (N : Nat) : (stMarks k0 N).length = N := by simp [stMarks]
theorem stMarks_at (k0 : Int) {N i : Nat} (h : i < N) : (stMarks k0 N)[i]? = some (.string (mText (k0 + (i : Int)).toNat)) := by simp [stMarks, h]
set_option maxHeartbeats 1000000 in
theorem markStringS_any (base : Nat) (A : Option Addr) (n c : Nat) (xs : List Value) (k0 : Int) (w : World) (ho : w.ownsRow base 9 1 (.slice A n c) n xs) (hn : n ≤ 1048600) (h0 : 1 ≤ k0) (h1 : k0 ≤ 100000000) :
    Calls Try.prog 15 #[.slice A n c, .int .i64 k0] w fun e w' => e = .returned (.int .i64 (k0 + n)) ∧ w'.ownsRow base 9 1 (.slice A n c) n (stMarks k0 n) ∧ w.grownBy w' (Value.slice A n c).ownBlock := by
  go_enter Try.func15, Try.ntmps15
  go_wp2
  go_loopw [1, 5] (fun kk i wr => ∃ k : Nat, k ≤ n ∧ i = .int .i64 k ∧ kk = .int .i64 (k0 + k) ∧ w.grownBy wr (Value.slice A n c).ownBlock ∧ ∃ xs, wr.ownsRow base 9 1 (.slice A n c) n xs ∧ Hid (xs.take k = stMarks k0 k)) (fun _ i _ => n - (intOf i).toNat)
  case atStart => exact ⟨0, Nat.zero_le _, rfl, by simp, World.grownBy.refl _ _, xs, ho, by simp [Hid, stMarks]⟩
  case round =>
    obtain ⟨k, hk, rfl, rfl, hg, xs, hown, htk⟩ := hrel
    by_cases hlt : k < n
    · obtain ⟨g, rfl, hgb, hgs, hc, hf⟩ := own_addr hown (by omega)
      clear hc hf
      have i1 : (0 : Int) ≤ k := by omega
      have i2 : (k : Int) < n := by omega
      go_wp2_with fail
      refine (markI _ _ (by omega) (by omega)).mono ?_; rintro e w0 ⟨rfl, hb0⟩
      have own0 := own_below hown hb0
      have gr0 := grown_below hg hb0
      clear hb0
      obtain ⟨d0, hd0⟩ := own_cells own0 (j := k) (by omega)
      have hf1 := fun j => own0.frozenAt j
      obtain ⟨y0, o0, t0⟩ := own_fill (.string (mText (k0 + k).toNat)) own0 htk.out rfl (by omega)
      have f0 := (own0.stored k (.string (mText (k0 + k).toNat))).2
      have G0 := gr0.trans f0
      have T0 := Lib.hid t0; clear t0
      go_wp2_with fail
      clear hd0 hf1
      go_roundw
      case rel => exact ⟨k + 1, by omega, by go_num, by go_num, G0, y0, o0, by rw [Hid, T0.out, stMarks_succ]⟩
      case measure => simp [intOf]; omega
    · go_wp2
      have : k = n := by omega
      subst this
      go_ret
      refine ⟨rfl, ?_, hg⟩
      rw [take_all htk.out ((own_len hown).trans (by simp))] at hown
      exact hown
set_option maxHeartbeats 2000000 in
theorem heldStringS_any (A : Option Addr) (n c : Nat) (k0 : Int) (w : World) (hr : RS w 1 A n (stMarks k0 n)) (hn : n ≤ 1048600) (h0 : 1 ≤ k0) (h1 : k0 ≤ 100000000) :
    Calls Try.prog 16 #[.slice A n c, .int .i64 k0] w fun e w' => e = .returned (.int .i64 (k0 + n)) ∧ Below w.heap.size w w' := by
  go_enter Try.func16, Try.ntmps16
  go_wp2
  go_loopw [1, 5] (fun kk i wr => ∃ k : Nat, k ≤ n ∧ i = .int .i64 k ∧ kk = .int .i64 (k0 + k) ∧ Below w.heap.size w wr) (fun _ i _ => n - (intOf i).toNat)
  case atStart => exact ⟨0, Nat.zero_le _, rfl, by simp, Below.refl _ _⟩
  case round =>
    obtain ⟨k, hk, rfl, rfl, hb⟩ := hrel
    by_cases hlt : k < n
    · have i1 : (0 : Int) ≤ k := by omega
      have i2 : (k : Int) < n := by omega
      obtain ⟨g, off, rfl, c0⟩ := (hr.below hb).cell (k := k) (i := 0) hlt (by rw [Nat.mul_one, Nat.add_zero]; exact stMarks_at k0 hlt)
      simp only [Nat.add_zero, Nat.mul_one] at c0
      go_wp2_with fail
      have x0 := cell_wext c0
      refine wp_region_ext (by kernel_rfl) (by kernel_rfl) ?_
      repeat (go_big_quiet_step ((go_at_call 41; exact ext_call (markI _ _ (by omega) (by omega)))))
      refine wpQuiet_nil ?_
      intro _ hw'; obtain ⟨nq0, hw''⟩ := hw'; subst hw''
      have B0 := below_app hb (below_wext wr nq0) hb.size
      clear x0
      generalize wext wr nq0 = w0 at *
      go_wp2_with fail
      go_roundw
      case rel => exact ⟨k + 1, by omega, by go_num, by go_num, B0⟩
      case measure => simp [intOf]; omega
    · go_wp2
      have : k = n := by omega
      subst this
      go_ret
      exact ⟨rfl, hb⟩
theorem stOpen : FlatAs Try.prog 9 stCell stOk := by
  intro H enc w base spare held n cs x h
  obtain ⟨b, rfl, _, w0⟩ := DataW.trod_string Try.underlying9 h
  exact ⟨b, rfl, by unfold maxLen at w0; unfold stOk; omega⟩
set_option maxRecDepth 100000 in
theorem open_strs {H : Type} {enc : TypeId × Value → H} {w : World} {base : Nat} {spare : Nat → Bool} {held : Bool} {r : Reach} {b0 : Nat} {v : Value} {d : DataW H} {p : List MemPlace}
    (hv : Value.okWide Try.prog w r b0 24 v) (h : DataW.Trod enc Try.prog w base spare held 24 v d p) :
    ∃ (A : Option Addr) (n c : Nat) (l : List ByteArray), v = .slice A n c ∧ RS w 1 A n (l.flatMap stCell) ∧ n ≤ 9223372036854775807 ∧ ∀ y ∈ l, stOk y := by
  obtain ⟨a0, len, cap, rfl⟩ := okWide_slice Try.underlying24 hv
  obtain ⟨fuel, hf⟩ := h
  obtain ⟨A, n, c, l, hv, hr, hl, hn, hc, hok⟩ := open_flat (f := stCell) Try.underlying24 (by kernel_rfl : Try.prog.cellsOf 9 = 1) (by omega) (fun _ => rfl) stOpen (by simpa [Value.cells] using hf)
  exact ⟨A, n, c, l, hv, hr, by unfold maxLen at hc; omega, hok⟩
end Go.Proofs.Ytaldlinekipblaa
