/- Event: a flat struct, and slices of it: the plain words and the walks of the laws' helpers. -/
import Derived.Test.YtijnkofnpoapnaaFlat
import Derived.Laws.Rows
namespace Go.Proofs.Ytijnkofnpoapnaa
open Go.ChangeShapes Go.WideShapes Go.ChangeAt Go.RowKit Go.Deep

structure Ev2 where
  id : Int
  day : Int
  kind : Int
  item : ByteArray
  q : Int
  a : Int
  r : Int
abbrev e2Agg (x : Ev2) : Value := .agg #[.int .i64 x.id, .int .i64 x.day, .int .i64 x.kind, .string x.item, .int .i64 x.q, .int .i64 x.a, .int .i64 x.r]
def e2Cell (x : Ev2) : List Value := [.int .i64 x.id, .int .i64 x.day, .int .i64 x.kind, .string x.item, .int .i64 x.q, .int .i64 x.a, .int .i64 x.r]
def e2Ok (x : Ev2) : Prop := i64 x.id ∧ i64 x.day ∧ i64 x.kind ∧ x.item.size ≤ 9223372036854775807 ∧ i64 x.q ∧ i64 x.a ∧ i64 x.r
theorem e2Cell_len : ∀ y, (e2Cell y).length = 7 := fun _ => rfl
theorem e2Cell_one : ∀ x, ∀ u ∈ e2Cell x, u.oneCell' = true := by
  intro x u hu
  simp only [e2Cell, List.mem_cons, List.not_mem_nil, or_false] at hu
  rcases hu with rfl | rfl | rfl | rfl | rfl | rfl | rfl <;> rfl
theorem RS.e2At {w : World} {A : Option Addr} {n k : Nat} {l : List Ev2} (h : RS w 7 A n (l.flatMap e2Cell)) (hk : k < n) :
    ∃ g off, A = some ⟨g, off, none⟩ ∧ ∃ y, l[k]? = some y ∧ w.cell? ⟨g, off + k * 7, none⟩ = some (.int .i64 y.id) ∧ w.cell? ⟨g, off + k * 7 + 1, none⟩ = some (.int .i64 y.day) ∧ w.cell? ⟨g, off + k * 7 + 2, none⟩ = some (.int .i64 y.kind) ∧ w.cell? ⟨g, off + k * 7 + 3, none⟩ = some (.string y.item) ∧ w.cell? ⟨g, off + k * 7 + 4, none⟩ = some (.int .i64 y.q) ∧ w.cell? ⟨g, off + k * 7 + 5, none⟩ = some (.int .i64 y.a) ∧ w.cell? ⟨g, off + k * 7 + 6, none⟩ = some (.int .i64 y.r) := by
  obtain ⟨g, off, e, y, hy, hc⟩ := h.flatAt e2Cell_len (by omega) hk
  exact ⟨g, off, e, y, hy, hc 0 (by omega), hc 1 (by omega), hc 2 (by omega), hc 3 (by omega), hc 4 (by omega), hc 5 (by omega), hc 6 (by omega)⟩
theorem e2Info : (Try.prog.info? 70).map (fun i => (i.zero, i.size, i.bytes)) = some (some (.agg #[.int .i64 0, .int .i64 0, .int .i64 0, .string ⟨#[]⟩, .int .i64 0, .int .i64 0, .int .i64 0]), 7, 64) := by kernel_rfl
def e2Sz (x : Ev2) : Int := (x.item.size : Int)
theorem e2Sz_nonneg (x : Ev2) : 0 ≤ e2Sz x := by unfold e2Sz; omega
set_option maxHeartbeats 1000000 in
theorem szEvent_any (x : Ev2) (left : Int) (w : World) (h0 : 0 ≤ left) (h1 : left ≤ 1048576) (hs : e2Ok x) :
    Calls Try.prog 44 #[e2Agg x, .int .i64 left] w fun e' w' => e' = .returned (.int .i64 (szRes left (e2Sz x))) ∧ Below w.heap.size w w' := by
  obtain ⟨id, day, kind, item, q, a, r⟩ := x
  simp only [e2Ok] at hs
  simp only [e2Sz]
  have hs' : item.size ≤ 9223372036854775807 := by omega
  clear hs
  by_cases g0 : left - item.size < 0
  · have e0 := Lib.hid (show szRes left ((item.size : Int)) = -1 by rw [szRes_no (by omega)])
    go_enter Try.func44, Try.ntmps44
    go_wp2
    go_ret
    exact ⟨ret_int (by rw [e0.out]), by go_grown⟩
  · have e0 := Lib.hid (show szRes left ((item.size : Int)) = left - item.size by rw [szRes_yes (by omega)]; try omega)
    go_enter Try.func44, Try.ntmps44
    go_wp2
    go_ret
    exact ⟨ret_int (by rw [e0.out]), by go_grown⟩
set_option maxHeartbeats 1000000 in
theorem szEventS_any (A : Option Addr) (n c : Nat) (l : List Ev2) (left : Int) (w : World) (hr : RS w 7 A n (l.flatMap e2Cell)) (hn : n ≤ 9223372036854775807) (hok : ∀ x ∈ l, e2Ok x) (h0 : 0 ≤ left) (h1 : left ≤ 1048576) :
    Calls Try.prog 48 #[.slice A n c, .int .i64 left] w fun e w' => e = .returned (.int .i64 (szRes left (n + sumF e2Sz l n))) ∧ Below w.heap.size w w' := by
  have hl := Lib.hid (hr.flatLen e2Cell_len (by omega))
  have NN := Lib.hid (fun k => sumF_nonneg (f := e2Sz) (l := l) (fun x _ => e2Sz_nonneg x) k)
  have MO := Lib.hid (fun k (hk : k ≤ n) => sumF_mono (f := e2Sz) (l := l) (fun x _ => e2Sz_nonneg x) hk (by rw [hl.out]; exact Nat.le_refl _))
  have OK := Lib.hid hok; clear hok
  by_cases hln : left - n < 0
  · have e0 := Lib.hid (show szRes left (n + sumF e2Sz l n) = -1 by rw [szRes_no (by have := NN.out n; omega)])
    go_enter Try.func48, Try.ntmps48
    go_wp2_with fail
    go_ret
    exact ⟨ret_int (by rw [e0.out]), Below.refl _ _⟩
  · go_enter Try.func48, Try.ntmps48
    go_wp2_with fail
    go_loopw [1, 5] (fun t i wr => ∃ k : Nat, k ≤ n ∧ i = .int .i64 k ∧ t = .int .i64 (left - n - sumF e2Sz l k) ∧ 0 ≤ left - n - sumF e2Sz l k ∧ Below w.heap.size w wr) (fun _ i _ => n - (intOf i).toNat)
    case atStart => exact ⟨0, Nat.zero_le _, rfl, by rw [sumF_zero]; simp, by rw [sumF_zero]; omega, Below.refl _ _⟩
    case round =>
      obtain ⟨k, hk, rfl, rfl, hge, hb⟩ := hrel
      have nn := NN.out k
      by_cases hlt : k < n
      · obtain ⟨g, off, rfl, ⟨id, day, kind, item, q, a, r⟩, hx, he20, he21, he22, he23, he24, he25, he26⟩ := (hr.below hb).e2At hlt
        have hs := Lib.hid (OK.out _ (List.mem_of_getElem? hx))
        have HS := Lib.hid (sumF_succ e2Sz hx)
        have mo := MO.out (k + 1) (by omega)
        rw [HS.out] at mo
        have sn := e2Sz_nonneg ⟨id, day, kind, item, q, a, r⟩
        have i1 : (0 : Int) ≤ k := by omega
        have i2 : (k : Int) < n := by omega
        clear hx
        by_cases hneg : left - n - sumF e2Sz l k - e2Sz ⟨id, day, kind, item, q, a, r⟩ < 0
        · have e0 := Lib.hid (show szRes left (n + sumF e2Sz l n) = -1 by rw [szRes_no (by omega)])
          go_wp2_with fail
          refine (szEvent_any ⟨id, day, kind, item, q, a, r⟩ _ _ hge (by omega) hs.out).mono ?_; rw [szRes_no (by omega)]; rintro e w1 ⟨rfl, hb1⟩
          go_wp2_with fail
          go_ret
          exact ⟨ret_int (by rw [e0.out]), below_app hb hb1 hb.size⟩
        · go_wp2_with fail
          refine (szEvent_any ⟨id, day, kind, item, q, a, r⟩ _ _ hge (by omega) hs.out).mono ?_; rw [szRes_yes (by omega)]; rintro e w1 ⟨rfl, hb1⟩
          go_wp2_with fail
          go_roundw
          case rel => exact ⟨k + 1, by omega, by go_num, by rw [HS.out]; go_num, by rw [HS.out]; omega, below_app hb hb1 hb.size⟩
          case measure => simp [intOf]; omega
      · obtain rfl : n = k := by omega
        have e0 := Lib.hid (show szRes left (n + sumF e2Sz l n) = left - n - sumF e2Sz l n by rw [szRes_yes (by omega)]; omega)
        go_wp2_with fail
        go_ret
        exact ⟨ret_int (by rw [e0.out]), hb⟩
theorem toEvent_any (x : Ev2) (w : World) : Calls Try.prog 46 #[e2Agg x] w fun e' w' => e' = .returned (e2Agg x) ∧ Below w.heap.size w w' := by
  obtain ⟨id, day, kind, item, q, a, r⟩ := x
  go_enter Try.func46, Try.ntmps46
  go_wp2
  go_returns
  exact ⟨rfl, by go_grown⟩
theorem eqEvent_true (x : Ev2) (w : World) : Calls Try.prog 74 #[e2Agg x, e2Agg x] w fun e' w' => e' = .returned (.bool true) ∧ Below w.heap.size w w' := by
  obtain ⟨id, day, kind, item, q, a, r⟩ := x
  go_enter Try.func74, Try.ntmps74
  go_wp2
  go_ret
  exact ⟨rfl, by go_grown⟩
set_option maxHeartbeats 1000000 in
theorem toEventS_any (A : Option Addr) (n c : Nat) (l : List Ev2) (w : World) (hr : RS w 7 A n (l.flatMap e2Cell)) (hn : n ≤ 1048576) :
    Calls Try.prog 50 #[.slice A n c] w fun e w' => ∃ A' c', e = .returned (.slice A' n c') ∧ w'.ownsRow w.heap.size 70 7 (.slice A' n c') n (l.flatMap e2Cell) ∧ Below w.heap.size w w' := by
  have hl := Lib.hid (hr.flatLen e2Cell_len (by omega))
  obtain ⟨i0, hi, hz0, hz1, hz2⟩ := info_parts e2Info
  go_enter Try.func50, Try.ntmps50
  go_wp2_with (at_make; refine wpList_make_full _ rfl _ _ _ rfl w.heap.size 70 i0 _ 7 Try.underlying75 hi hz0 hz1 _ _ _ _ n rfl rfl rfl rfl (by rw [hz2]; omega) (by unfold maxLen; omega) (Nat.le_refl _) ?_; intro w1 hown1 hg1)
  have hb1 : Below w.heap.size w w1 := ⟨hg1.os, hg1.tape, hg1.output, hg1.size, fun k hk => hg1.block k hk (by simp)⟩
  clear hg1
  go_loopw [4] (fun i wr => ∃ k : Nat, k ≤ n ∧ i = .int .i64 k ∧ Below w.heap.size w wr ∧ ∃ xs, wr.ownsRow w.heap.size 70 7 (.slice (some ⟨w.heap.size, 0, none⟩) n n) n xs ∧ Hid (xs.take (k * 7) = (l.take k).flatMap e2Cell)) (fun i _ => n - (intOf i).toNat)
  case atStart => exact ⟨0, Nat.zero_le _, rfl, hb1, _, hown1, by simp [Hid]⟩
  case round =>
    obtain ⟨k, hk, rfl, hb, xs, hown, htk⟩ := hrel
    clear hb1 hown1
    by_cases hlt : k < n
    · obtain ⟨g, off, rfl, ⟨id, day, kind, item, q, a, r⟩, hx, he20, he21, he22, he23, he24, he25, he26⟩ := (hr.below hb).e2At hlt
      have HX := Lib.hid hx; clear hx
      go_wp2_with (go_at_call 46; refine (toEvent_any ⟨id, day, kind, item, q, a, r⟩ _).mono ?_; rintro e w2 ⟨rfl, hb2⟩; have hown2 := own_below hown hb2; obtain ⟨d0, hd0⟩ := own_cells hown2 (j := k * 7) (by omega); obtain ⟨d1, hd1⟩ := own_cells hown2 (j := k * 7 + 1) (by omega); obtain ⟨d2, hd2⟩ := own_cells hown2 (j := k * 7 + 2) (by omega); obtain ⟨d3, hd3⟩ := own_cells hown2 (j := k * 7 + 3) (by omega); obtain ⟨d4, hd4⟩ := own_cells hown2 (j := k * 7 + 4) (by omega); obtain ⟨d5, hd5⟩ := own_cells hown2 (j := k * 7 + 5) (by omega); obtain ⟨d6, hd6⟩ := own_cells hown2 (j := k * 7 + 6) (by omega); have hf := fun j => hown2.frozenAt j)
      go_roundw
      case rel =>
        obtain ⟨y0, o0, t0⟩ := own_fill (.int .i64 id) hown2 htk.out rfl (by omega)
        obtain ⟨y1, o1, t1⟩ := own_fill (.int .i64 day) o0 t0 rfl (by omega)
        obtain ⟨y2, o2, t2⟩ := own_fill (.int .i64 kind) o1 t1 rfl (by omega)
        obtain ⟨y3, o3, t3⟩ := own_fill (.string item) o2 t2 rfl (by omega)
        obtain ⟨y4, o4, t4⟩ := own_fill (.int .i64 q) o3 t3 rfl (by omega)
        obtain ⟨y5, o5, t5⟩ := own_fill (.int .i64 a) o4 t4 rfl (by omega)
        obtain ⟨y6, o6, t6⟩ := own_fill (.int .i64 r) o5 t5 rfl (by omega)
        refine ⟨k + 1, by omega, by go_num, (((((((below_app hb hb2 hb.size).setCell (Nat.le_refl _) _).setCell (Nat.le_refl _) _).setCell (Nat.le_refl _) _).setCell (Nat.le_refl _) _).setCell (Nat.le_refl _) _).setCell (Nat.le_refl _) _).setCell (Nat.le_refl _) _, y6, o6, ?_⟩
        show y6.take ((k + 1) * 7) = _
        rw [show (k + 1) * 7 = k * 7 + 1 + 1 + 1 + 1 + 1 + 1 + 1 by omega, t6, take_flat HX.out]
        simp [e2Cell]
      case measure => simp [intOf]; omega
    · go_wp2
      have : k = n := by omega
      subst this
      go_ret
      refine ⟨_, _, rfl, ?_, hb⟩
      rw [take_all htk.out (own_len hown), List.take_of_length_le (by rw [hl.out]; exact Nat.le_refl _)] at hown
      exact hown
set_option maxHeartbeats 1000000 in
theorem eqEventS_true (A : Option Addr) (n c : Nat) (l : List Ev2) (A' : Option Addr) (n' c' : Nat) (l' : List Ev2) (w : World) (hr : RS w 7 A n (l.flatMap e2Cell)) (hr' : RS w 7 A' n' (l'.flatMap e2Cell)) (hn : n ≤ 9223372036854775807) (hn' : n' ≤ 9223372036854775807) (heq : l = l') :
    Calls Try.prog 52 #[.slice A n c, .slice A' n' c'] w fun e w' => e = .returned (.bool true) ∧ Below w.heap.size w w' := by
  have hl := hr.flatLen e2Cell_len (by omega)
  have hl' := hr'.flatLen e2Cell_len (by omega)
  obtain rfl : n = n' := by rw [← hl, ← hl', heq]
  have HE := Lib.hid heq; clear heq hl hl'
  go_enter Try.func52, Try.ntmps52
  go_wp2
  go_loopw [5] (fun i wr => ∃ k : Nat, k ≤ n ∧ i = .int .i64 k ∧ Below w.heap.size w wr) (fun i _ => n - (intOf i).toNat)
  case atStart => exact ⟨0, Nat.zero_le _, rfl, Below.refl _ _⟩
  case round =>
    obtain ⟨k, hk, rfl, hb⟩ := hrel
    by_cases hlt : k < n
    · obtain ⟨g, off, rfl, x, hx, he20, he21, he22, he23, he24, he25, he26⟩ := (hr.below hb).e2At hlt
      obtain ⟨g', off', rfl, x', hx', ke20, ke21, ke22, ke23, ke24, ke25, ke26⟩ := (hr'.below hb).e2At hlt
      rw [HE.out, hx'] at hx
      obtain rfl : x' = x := by simpa using hx
      clear hx hx'
      obtain ⟨id, day, kind, item, q, a, r⟩ := x'
      have i1 : (0 : Int) ≤ k := by omega
      have i2 : (k : Int) < n := by omega
      have a0 := cell_wext he20; have b0 := cell_wext ke20; have a1 := cell_wext he21; have b1 := cell_wext ke21; have a2 := cell_wext he22; have b2 := cell_wext ke22; have a3 := cell_wext he23; have b3 := cell_wext ke23; have a4 := cell_wext he24; have b4 := cell_wext ke24; have a5 := cell_wext he25; have b5 := cell_wext ke25; have a6 := cell_wext he26; have b6 := cell_wext ke26
      go_wp2
      refine wp_region_ext (by kernel_rfl) (by kernel_rfl) ?_
      repeat (go_big_quiet_step ((go_at_call 74; exact ext_call (eqEvent_true ⟨id, day, kind, item, q, a, r⟩ _))))
      refine wpQuiet_nil ?_
      intro _ hw'; obtain ⟨nq, hw''⟩ := hw'; subst hw''
      go_wp2
      go_roundw
      case rel => exact ⟨k + 1, by omega, by go_num, below_app hb (below_wext _ _) hb.size⟩
      case measure => simp [intOf]; omega
    · go_wp2
      have : k = n := by omega
      subst this
      go_ret
      exact ⟨rfl, hb⟩
def e2Marks (k0 : Int) (N : Nat) : List Value := marksF (fun j => [false, false, false, true, false, false, false].getD j false) 7 k0 N
theorem e2Marks_0 (k0 : Int) (k : Nat) : e2Marks k0 (k * 7 + 1) = e2Marks k0 (k * 7) ++ [.int .i64 (k0 + k * 7)] := by
  unfold e2Marks
  rw [marksF_succ]
  have e1 : (k * 7) % 7 = 0 := by omega
  have e2 : k0 + ((k * 7 : Nat) : Int) = k0 + k * 7 := by simp; try omega
  rw [e1, e2]; rfl
theorem e2Marks_at0 (k0 : Int) (n k : Nat) (h : k < n) : (e2Marks k0 (n * 7))[k * 7 + 0]? = some (.int .i64 (k0 + k * 7)) := by
  unfold e2Marks
  rw [marksF_at _ _ _ (by omega)]
  have e1 : (k * 7 + 0) % 7 = 0 := by omega
  have e2 : k0 + ((k * 7 + 0 : Nat) : Int) = k0 + k * 7 := by simp; try omega
  rw [e1, e2]; rfl
theorem e2Marks_1 (k0 : Int) (k : Nat) : e2Marks k0 (k * 7 + 1 + 1) = e2Marks k0 (k * 7 + 1) ++ [.int .i64 (k0 + k * 7 + 1)] := by
  unfold e2Marks
  rw [marksF_succ]
  have e1 : (k * 7 + 1) % 7 = 1 := by omega
  have e2 : k0 + ((k * 7 + 1 : Nat) : Int) = k0 + k * 7 + 1 := by simp; try omega
  rw [e1, e2]; rfl
theorem e2Marks_at1 (k0 : Int) (n k : Nat) (h : k < n) : (e2Marks k0 (n * 7))[k * 7 + 1]? = some (.int .i64 (k0 + k * 7 + 1)) := by
  unfold e2Marks
  rw [marksF_at _ _ _ (by omega)]
  have e1 : (k * 7 + 1) % 7 = 1 := by omega
  have e2 : k0 + ((k * 7 + 1 : Nat) : Int) = k0 + k * 7 + 1 := by simp; try omega
  rw [e1, e2]; rfl
theorem e2Marks_2 (k0 : Int) (k : Nat) : e2Marks k0 (k * 7 + 1 + 1 + 1) = e2Marks k0 (k * 7 + 1 + 1) ++ [.int .i64 (k0 + k * 7 + 1 + 1)] := by
  unfold e2Marks
  rw [marksF_succ]
  have e1 : (k * 7 + 1 + 1) % 7 = 2 := by omega
  have e2 : k0 + ((k * 7 + 1 + 1 : Nat) : Int) = k0 + k * 7 + 1 + 1 := by simp; try omega
  rw [e1, e2]; rfl
theorem e2Marks_at2 (k0 : Int) (n k : Nat) (h : k < n) : (e2Marks k0 (n * 7))[k * 7 + 2]? = some (.int .i64 (k0 + k * 7 + 1 + 1)) := by
  unfold e2Marks
  rw [marksF_at _ _ _ (by omega)]
  have e1 : (k * 7 + 2) % 7 = 2 := by omega
  have e2 : k0 + ((k * 7 + 2 : Nat) : Int) = k0 + k * 7 + 1 + 1 := by simp; try omega
  rw [e1, e2]; rfl
theorem e2Marks_3 (k0 : Int) (k : Nat) : e2Marks k0 (k * 7 + 1 + 1 + 1 + 1) = e2Marks k0 (k * 7 + 1 + 1 + 1) ++ [.string (mText (k0 + k * 7 + 1 + 1 + 1).toNat)] := by
  unfold e2Marks
  rw [marksF_succ]
  have e1 : (k * 7 + 1 + 1 + 1) % 7 = 3 := by omega
  have e2 : k0 + ((k * 7 + 1 + 1 + 1 : Nat) : Int) = k0 + k * 7 + 1 + 1 + 1 := by simp; try omega
  rw [e1, e2]; rfl
theorem e2Marks_at3 (k0 : Int) (n k : Nat) (h : k < n) : (e2Marks k0 (n * 7))[k * 7 + 3]? = some (.string (mText (k0 + k * 7 + 1 + 1 + 1).toNat)) := by
  unfold e2Marks
  rw [marksF_at _ _ _ (by omega)]
  have e1 : (k * 7 + 3) % 7 = 3 := by omega
  have e2 : k0 + ((k * 7 + 3 : Nat) : Int) = k0 + k * 7 + 1 + 1 + 1 := by simp; try omega
  rw [e1, e2]; rfl
theorem e2Marks_4 (k0 : Int) (k : Nat) : e2Marks k0 (k * 7 + 1 + 1 + 1 + 1 + 1) = e2Marks k0 (k * 7 + 1 + 1 + 1 + 1) ++ [.int .i64 (k0 + k * 7 + 1 + 1 + 1 + 1)] := by
  unfold e2Marks
  rw [marksF_succ]
  have e1 : (k * 7 + 1 + 1 + 1 + 1) % 7 = 4 := by omega
  have e2 : k0 + ((k * 7 + 1 + 1 + 1 + 1 : Nat) : Int) = k0 + k * 7 + 1 + 1 + 1 + 1 := by simp; try omega
  rw [e1, e2]; rfl
theorem e2Marks_at4 (k0 : Int) (n k : Nat) (h : k < n) : (e2Marks k0 (n * 7))[k * 7 + 4]? = some (.int .i64 (k0 + k * 7 + 1 + 1 + 1 + 1)) := by
  unfold e2Marks
  rw [marksF_at _ _ _ (by omega)]
  have e1 : (k * 7 + 4) % 7 = 4 := by omega
  have e2 : k0 + ((k * 7 + 4 : Nat) : Int) = k0 + k * 7 + 1 + 1 + 1 + 1 := by simp; try omega
  rw [e1, e2]; rfl
theorem e2Marks_5 (k0 : Int) (k : Nat) : e2Marks k0 (k * 7 + 1 + 1 + 1 + 1 + 1 + 1) = e2Marks k0 (k * 7 + 1 + 1 + 1 + 1 + 1) ++ [.int .i64 (k0 + k * 7 + 1 + 1 + 1 + 1 + 1)] := by
  unfold e2Marks
  rw [marksF_succ]
  have e1 : (k * 7 + 1 + 1 + 1 + 1 + 1) % 7 = 5 := by omega
  have e2 : k0 + ((k * 7 + 1 + 1 + 1 + 1 + 1 : Nat) : Int) = k0 + k * 7 + 1 + 1 + 1 + 1 + 1 := by simp; try omega
  rw [e1, e2]; rfl
theorem e2Marks_at5 (k0 : Int) (n k : Nat) (h : k < n) : (e2Marks k0 (n * 7))[k * 7 + 5]? = some (.int .i64 (k0 + k * 7 + 1 + 1 + 1 + 1 + 1)) := by
  unfold e2Marks
  rw [marksF_at _ _ _ (by omega)]
  have e1 : (k * 7 + 5) % 7 = 5 := by omega
  have e2 : k0 + ((k * 7 + 5 : Nat) : Int) = k0 + k * 7 + 1 + 1 + 1 + 1 + 1 := by simp; try omega
  rw [e1, e2]; rfl
theorem e2Marks_6 (k0 : Int) (k : Nat) : e2Marks k0 (k * 7 + 1 + 1 + 1 + 1 + 1 + 1 + 1) = e2Marks k0 (k * 7 + 1 + 1 + 1 + 1 + 1 + 1) ++ [.int .i64 (k0 + k * 7 + 1 + 1 + 1 + 1 + 1 + 1)] := by
  unfold e2Marks
  rw [marksF_succ]
  have e1 : (k * 7 + 1 + 1 + 1 + 1 + 1 + 1) % 7 = 6 := by omega
  have e2 : k0 + ((k * 7 + 1 + 1 + 1 + 1 + 1 + 1 : Nat) : Int) = k0 + k * 7 + 1 + 1 + 1 + 1 + 1 + 1 := by simp; try omega
  rw [e1, e2]; rfl
theorem e2Marks_at6 (k0 : Int) (n k : Nat) (h : k < n) : (e2Marks k0 (n * 7))[k * 7 + 6]? = some (.int .i64 (k0 + k * 7 + 1 + 1 + 1 + 1 + 1 + 1)) := by
  unfold e2Marks
  rw [marksF_at _ _ _ (by omega)]
  have e1 : (k * 7 + 6) % 7 = 6 := by omega
  have e2 : k0 + ((k * 7 + 6 : Nat) : Int) = k0 + k * 7 + 1 + 1 + 1 + 1 + 1 + 1 := by simp; try omega
  rw [e1, e2]; rfl
set_option maxHeartbeats 2000000 in
theorem markEventS_any (base : Nat) (A : Option Addr) (n c : Nat) (xs : List Value) (k0 : Int) (w : World) (ho : w.ownsRow base 70 7 (.slice A n c) n xs) (hn : n ≤ 1048600) (h0 : 1 ≤ k0) (h1 : k0 ≤ 100000000) :
    Calls Try.prog 53 #[.slice A n c, .int .i64 k0] w fun e w' => e = .returned (.int .i64 (k0 + n * 7)) ∧ w'.ownsRow base 70 7 (.slice A n c) n (e2Marks k0 (n * 7)) ∧ w.grownBy w' (Value.slice A n c).ownBlock := by
  go_enter Try.func53, Try.ntmps53
  go_wp2
  go_loopw [1, 5] (fun kk i wr => ∃ k : Nat, k ≤ n ∧ i = .int .i64 k ∧ kk = .int .i64 (k0 + k * 7) ∧ w.grownBy wr (Value.slice A n c).ownBlock ∧ ∃ xs, wr.ownsRow base 70 7 (.slice A n c) n xs ∧ Hid (xs.take (k * 7) = e2Marks k0 (k * 7))) (fun _ i _ => n - (intOf i).toNat)
  case atStart => exact ⟨0, Nat.zero_le _, rfl, by simp, World.grownBy.refl _ _, xs, ho, by simp [Hid, e2Marks, marksF]⟩
  case round =>
    obtain ⟨k, hk, rfl, rfl, hg, xs, hown, htk⟩ := hrel
    by_cases hlt : k < n
    · obtain ⟨g, rfl, hgb, hgs, hc, hf⟩ := own_addr hown (by omega)
      clear hc hf
      have i1 : (0 : Int) ≤ k := by omega
      have i2 : (k : Int) < n := by omega
      obtain ⟨d0, hd0⟩ := own_cells hown (j := k * 7) (by omega)
      obtain ⟨d1, hd1⟩ := own_cells hown (j := k * 7 + 1) (by omega)
      obtain ⟨d2, hd2⟩ := own_cells hown (j := k * 7 + 2) (by omega)
      have hf0 := fun j => hown.frozenAt j
      obtain ⟨y0, o0, t0⟩ := own_fill (.int .i64 (k0 + k * 7)) hown htk.out rfl (by omega)
      have f0 := (hown.stored (k * 7) (.int .i64 (k0 + k * 7))).2
      have G0 := hg.trans f0
      obtain ⟨y1, o1, t1⟩ := own_fill (.int .i64 (k0 + k * 7 + 1)) o0 t0 rfl (by omega)
      have f1 := (o0.stored (k * 7 + 1) (.int .i64 (k0 + k * 7 + 1))).2
      have G1 := G0.trans f1
      obtain ⟨y2, o2, t2⟩ := own_fill (.int .i64 (k0 + k * 7 + 1 + 1)) o1 t1 rfl (by omega)
      have f2 := (o1.stored (k * 7 + 2) (.int .i64 (k0 + k * 7 + 1 + 1))).2
      have G2 := G1.trans f2
      have T0 := Lib.hid t0; clear t0; have T1 := Lib.hid t1; clear t1; have T2 := Lib.hid t2; clear t2
      go_wp2_with fail
      clear hd0 hd1 hd2 hf0
      refine (markI _ _ (by omega) (by omega)).mono ?_; rintro e w3 ⟨rfl, hb3⟩
      have own3 := own_below o2 hb3
      have gr3 := grown_below G2 hb3
      have own3 := own3
      clear hb3
      obtain ⟨d3, hd3⟩ := own_cells own3 (j := k * 7 + 3) (by omega)
      obtain ⟨d4, hd4⟩ := own_cells own3 (j := k * 7 + 4) (by omega)
      obtain ⟨d5, hd5⟩ := own_cells own3 (j := k * 7 + 5) (by omega)
      obtain ⟨d6, hd6⟩ := own_cells own3 (j := k * 7 + 6) (by omega)
      have hf1 := fun j => own3.frozenAt j
      obtain ⟨y3, o3, t3⟩ := own_fill (.string (mText (k0 + k * 7 + 1 + 1 + 1).toNat)) own3 T2.out rfl (by omega)
      have f3 := (own3.stored (k * 7 + 3) (.string (mText (k0 + k * 7 + 1 + 1 + 1).toNat))).2
      have G3 := gr3.trans f3
      obtain ⟨y4, o4, t4⟩ := own_fill (.int .i64 (k0 + k * 7 + 1 + 1 + 1 + 1)) o3 t3 rfl (by omega)
      have f4 := (o3.stored (k * 7 + 4) (.int .i64 (k0 + k * 7 + 1 + 1 + 1 + 1))).2
      have G4 := G3.trans f4
      obtain ⟨y5, o5, t5⟩ := own_fill (.int .i64 (k0 + k * 7 + 1 + 1 + 1 + 1 + 1)) o4 t4 rfl (by omega)
      have f5 := (o4.stored (k * 7 + 5) (.int .i64 (k0 + k * 7 + 1 + 1 + 1 + 1 + 1))).2
      have G5 := G4.trans f5
      obtain ⟨y6, o6, t6⟩ := own_fill (.int .i64 (k0 + k * 7 + 1 + 1 + 1 + 1 + 1 + 1)) o5 t5 rfl (by omega)
      have f6 := (o5.stored (k * 7 + 6) (.int .i64 (k0 + k * 7 + 1 + 1 + 1 + 1 + 1 + 1))).2
      have G6 := G5.trans f6
      have T3 := Lib.hid t3; clear t3; have T4 := Lib.hid t4; clear t4; have T5 := Lib.hid t5; clear t5; have T6 := Lib.hid t6; clear t6
      go_wp2_with fail
      clear hd3 hd4 hd5 hd6 hf1
      go_roundw
      case rel =>
        refine ⟨k + 1, by omega, by go_num, by go_num, G6, y6, o6, ?_⟩
        have e : (k + 1) * 7 = k * 7 + 1 + 1 + 1 + 1 + 1 + 1 + 1 := by omega
        show y6.take ((k + 1) * 7) = e2Marks k0 ((k + 1) * 7)
        rw [e]
        have tt := T6.out
        refine Eq.trans ?_ (tt.trans ?_)
        · rfl
        · rw [e2Marks_6, e2Marks_5, e2Marks_4, e2Marks_3, e2Marks_2, e2Marks_1, e2Marks_0]
      case measure => simp [intOf]; omega
    · go_wp2
      have : k = n := by omega
      subst this
      go_ret
      refine ⟨rfl, ?_, hg⟩
      rw [take_all htk.out (own_len hown)] at hown
      exact hown
set_option maxHeartbeats 2000000 in
theorem heldEventS_any (A : Option Addr) (n c : Nat) (k0 : Int) (w : World) (hr : RS w 7 A n (e2Marks k0 (n * 7))) (hn : n ≤ 1048600) (h0 : 1 ≤ k0) (h1 : k0 ≤ 100000000) :
    Calls Try.prog 54 #[.slice A n c, .int .i64 k0] w fun e w' => e = .returned (.int .i64 (k0 + n * 7)) ∧ Below w.heap.size w w' := by
  go_enter Try.func54, Try.ntmps54
  go_wp2
  go_loopw [1, 5] (fun kk i wr => ∃ k : Nat, k ≤ n ∧ i = .int .i64 k ∧ kk = .int .i64 (k0 + k * 7) ∧ Below w.heap.size w wr) (fun _ i _ => n - (intOf i).toNat)
  case atStart => exact ⟨0, Nat.zero_le _, rfl, by simp, Below.refl _ _⟩
  case round =>
    obtain ⟨k, hk, rfl, rfl, hb⟩ := hrel
    by_cases hlt : k < n
    · have i1 : (0 : Int) ≤ k := by omega
      have i2 : (k : Int) < n := by omega
      obtain ⟨g, off, rfl, c0⟩ := (hr.below hb).cell (i := 0) hlt (e2Marks_at0 k0 n k hlt)
      obtain ⟨g', off', hA, c1⟩ := (hr.below hb).cell (i := 1) hlt (e2Marks_at1 k0 n k hlt)
      obtain ⟨rfl, rfl⟩ : g = g' ∧ off = off' := by simpa using hA
      clear hA
      obtain ⟨g', off', hA, c2⟩ := (hr.below hb).cell (i := 2) hlt (e2Marks_at2 k0 n k hlt)
      obtain ⟨rfl, rfl⟩ : g = g' ∧ off = off' := by simpa using hA
      clear hA
      obtain ⟨g', off', hA, c3⟩ := (hr.below hb).cell (i := 3) hlt (e2Marks_at3 k0 n k hlt)
      obtain ⟨rfl, rfl⟩ : g = g' ∧ off = off' := by simpa using hA
      clear hA
      obtain ⟨g', off', hA, c4⟩ := (hr.below hb).cell (i := 4) hlt (e2Marks_at4 k0 n k hlt)
      obtain ⟨rfl, rfl⟩ : g = g' ∧ off = off' := by simpa using hA
      clear hA
      obtain ⟨g', off', hA, c5⟩ := (hr.below hb).cell (i := 5) hlt (e2Marks_at5 k0 n k hlt)
      obtain ⟨rfl, rfl⟩ : g = g' ∧ off = off' := by simpa using hA
      clear hA
      obtain ⟨g', off', hA, c6⟩ := (hr.below hb).cell (i := 6) hlt (e2Marks_at6 k0 n k hlt)
      obtain ⟨rfl, rfl⟩ : g = g' ∧ off = off' := by simpa using hA
      clear hA
      simp only [Nat.add_zero] at c0
      go_wp2_with fail
      have x3 := cell_wext c3
      refine wp_region_ext (by kernel_rfl) (by kernel_rfl) ?_
      repeat (go_big_quiet_step ((go_at_call 75; exact ext_call (markI _ _ (by omega) (by omega)))))
      refine wpQuiet_nil ?_
      intro _ hw'; obtain ⟨nq3, hw''⟩ := hw'; subst hw''
      have bq3 := below_wext wr nq3
      have c4 := cell_keep bq3 c4
      have c5 := cell_keep bq3 c5
      have c6 := cell_keep bq3 c6
      have B3 := below_app hb bq3 hb.size
      clear x3
      generalize wext wr nq3 = w3 at *
      go_wp2_with fail
      go_roundw
      case rel => exact ⟨k + 1, by omega, by go_num, by go_num, B3⟩
      case measure => simp [intOf]; omega
    · go_wp2
      have : k = n := by omega
      subst this
      go_ret
      exact ⟨rfl, hb⟩
set_option maxRecDepth 100000 in
theorem e2Open : FlatAs Try.prog 67 e2Cell e2Ok := by
  intro H enc w base spare held n cs x h
  obtain ⟨hlen, m, hf⟩ := open_fields Try.underlying67 (by kernel_rfl) (by kernel_rfl) h
  obtain ⟨v0, y0, h0, t0⟩ := hf 0 _ rfl
  obtain ⟨v1, y1, h1, t1⟩ := hf 1 _ rfl
  obtain ⟨v2, y2, h2, t2⟩ := hf 2 _ rfl
  obtain ⟨v3, y3, h3, t3⟩ := hf 3 _ rfl
  obtain ⟨v4, y4, h4, t4⟩ := hf 4 _ rfl
  obtain ⟨v5, y5, h5, t5⟩ := hf 5 _ rfl
  obtain ⟨v6, y6, h6, t6⟩ := hf 6 _ rfl
  obtain ⟨a0, e0, _, w0⟩ := DataW.trod_int Try.underlying3 t0
  obtain ⟨a1, e1, _, w1⟩ := DataW.trod_int Try.underlying3 t1
  obtain ⟨a2, e2, _, w2⟩ := DataW.trod_int Try.underlying3 t2
  obtain ⟨a3, e3, _, w3⟩ := DataW.trod_string Try.underlying9 t3
  obtain ⟨a4, e4, _, w4⟩ := DataW.trod_int Try.underlying3 t4
  obtain ⟨a5, e5, _, w5⟩ := DataW.trod_int Try.underlying3 t5
  obtain ⟨a6, e6, _, w6⟩ := DataW.trod_int Try.underlying3 t6
  simp only [List.cons.injEq, and_true] at e0 e1 e2 e3 e4 e5 e6
  subst e0 e1 e2 e3 e4 e5 e6
  match cs, hlen with
  | [_, _, _, _, _, _, _], _ =>
    simp at h0 h1 h2 h3 h4 h5 h6
    exact ⟨⟨a0, a1, a2, a3, a4, a5, a6⟩, by simp [e2Cell, h0, h1, h2, h3, h4, h5, h6], i64_of w0, i64_of w1, i64_of w2, (by unfold maxLen at w3; simp only; omega), i64_of w4, i64_of w5, i64_of w6⟩
set_option maxRecDepth 100000 in
theorem open_e2s {H : Type} {enc : TypeId × Value → H} {w : World} {base : Nat} {spare : Nat → Bool} {held : Bool} {r : Reach} {b0 : Nat} {v : Value} {d : DataW H} {p : List MemPlace}
    (hv : Value.okWide Try.prog w r b0 73 v) (h : DataW.Trod enc Try.prog w base spare held 73 v d p) :
    ∃ (A : Option Addr) (n c : Nat) (l : List Ev2), v = .slice A n c ∧ RS w 7 A n (l.flatMap e2Cell) ∧ n ≤ 9223372036854775807 ∧ ∀ y ∈ l, e2Ok y := by
  obtain ⟨a0, len, cap, rfl⟩ := okWide_slice Try.underlying73 hv
  obtain ⟨fuel, hf⟩ := h
  obtain ⟨A, n, c, l, hv, hr, hl, hn, hc, hok⟩ := open_flat (f := e2Cell) Try.underlying73 (by kernel_rfl : Try.prog.cellsOf 67 = 7) (by omega) (fun _ => rfl) e2Open (by simpa [Value.cells] using hf)
  exact ⟨A, n, c, l, hv, hr, by unfold maxLen at hc; omega, hok⟩
end Go.Proofs.Ytijnkofnpoapnaa
