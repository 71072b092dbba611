/- Layers as plain data: a late cost shared among layers; the walks of ShareLate. No condition. -/
import Derived.Test.YtknfhiepndffpaaInts2
import Derived.Test.YtknfhiepndffpaaLay5
import Derived.Test.YtknfhiepndffpaaLayH
namespace Go.Proofs.Ytknfhiepndffpaa
open Go.ChangeShapes Go.WideShapes Go.ChangeAt Go.RowKit

def quant (l : List Lay) : List Int := l.map fun x => x.q
theorem quant_len (l : List Lay) : (quant l).length = l.length := List.length_map _
theorem quant_sum {l : List Lay} (h : goods l) (h0 : 0 < l.length) : 0 < (quant l).sum := by
  cases l with
  | nil => simp at h0
  | cons x l =>
    obtain ⟨hx, hl⟩ := goods_cons h
    have : 0 ≤ (quant l).sum := by
      clear h h0 hx x
      induction l with
      | nil => simp [quant]
      | cons y l ih =>
        obtain ⟨hy, hl'⟩ := goods_cons hl
        have := ih hl'
        unfold layGood at hy
        simp only [quant, List.map_cons, List.sum_cons] at *; omega
    unfold layGood at hx
    simp only [quant, List.map_cons, List.sum_cons] at *; omega
theorem quant_are {l : List Lay} (h : areLayers l = true) (h0 : 0 < l.length) : areW (quant l) = true := by
  obtain ⟨h1, h2, _⟩ := areLayers_iff.1 h
  have e := quant_sum h2 h0
  rw [areW_good]
  · simp [quant_len, e]; omega
  · intro j x hx
    simp only [quant, List.getElem?_map, Option.map_eq_some_iff] at hx
    obtain ⟨y, hy, rfl⟩ := hx
    have := h2 y (List.mem_of_getElem? hy)
    unfold layGood at this
    rw [inB_true]; omega
theorem quant_take (l : List Lay) (k : Nat) {x : Lay} (h : l[k]? = some x) : quant (l.take (k + 1)) = quant (l.take k) ++ [x.q] := by
  simp [quant, List.take_add_one, h]

def shrTo (l : List Lay) (ss : List Int) : Nat → Option (List Lay × Int)
  | 0 => some (l, 0)
  | k + 1 => match shrTo l ss k with
    | none => none
    | some (o, g) => if lateOk o (k : Int) (ss.getD k 0) then some (lateOut o (k : Int) (ss.getD k 0), g + lateGone o (k : Int) (ss.getD k 0)) else none
theorem shrTo_yes {l : List Lay} {ss : List Int} {k : Nat} {o : List Lay} {g s : Int} (h : shrTo l ss k = some (o, g)) (hs : ss[k]? = some s) (ok : lateOk o (k : Int) s = true) : shrTo l ss (k + 1) = some (lateOut o (k : Int) s, g + lateGone o (k : Int) s) := by
  have e : ss.getD k 0 = s := by rw [List.getD_eq_getElem?_getD, hs]; rfl
  unfold shrTo; rw [h]; simp only []; rw [e, if_pos ok]
theorem shrTo_no {l : List Lay} {ss : List Int} {k : Nat} {o : List Lay} {g s : Int} (h : shrTo l ss k = some (o, g)) (hs : ss[k]? = some s) (ok : lateOk o (k : Int) s = false) : shrTo l ss (k + 1) = none := by
  have e : ss.getD k 0 = s := by rw [List.getD_eq_getElem?_getD, hs]; rfl
  unfold shrTo; rw [h]; simp only []; rw [e, if_neg (by rw [ok]; exact Bool.false_ne_true)]
theorem shrTo_none {l : List Lay} {ss : List Int} {k : Nat} (h : shrTo l ss k = none) : ∀ m, k ≤ m → shrTo l ss m = none := by
  intro m hm
  induction m with
  | zero => have : k = 0 := by omega
            subst this; exact h
  | succ m ih =>
    rcases Nat.lt_or_ge m k with h1 | h1
    · have : k = m + 1 := by omega
      subst this; exact h
    · simp [shrTo, ih h1]
def shareL (l : List Lay) (a : Int) : Option (List Lay × Int) := if areLayers l && (decide (0 < l.length) && shareOk a (quant l)) then shrTo l (appOut a (quant l)) l.length else none
def shOut (l : List Lay) (a : Int) : List Lay := match shareL l a with | some (o, _) => o | none => []
def shGone (l : List Lay) (a : Int) : Int := match shareL l a with | some (_, g) => g | none => 0
def shIs (l : List Lay) (a : Int) : Bool := (shareL l a).isSome
theorem shareL_no {l : List Lay} {a : Int} (h : shareL l a = none) : shOut l a = [] ∧ shGone l a = 0 ∧ shIs l a = false := by simp [shOut, shGone, shIs, h]
theorem shareL_yes {l : List Lay} {a : Int} {o : List Lay} {g : Int} (h : shareL l a = some (o, g)) : shOut l a = o ∧ shGone l a = g ∧ shIs l a = true := by simp [shOut, shGone, shIs, h]
theorem shareL_go {l : List Lay} {a : Int} (h1 : areLayers l = true) (h2 : 0 < l.length) (h3 : shareOk a (quant l) = true) : shareL l a = shrTo l (appOut a (quant l)) l.length := by
  simp [shareL, h1, h2, h3]
theorem appOut_at {a : Int} {l : List Int} (h : shareOk a l = true) {k : Nat} (hk : k < l.length) : ∃ s, (appOut a l)[k]? = some s := by
  refine ⟨_, List.getElem?_eq_getElem ?_⟩
  rw [appOut, if_pos h, appTo_len]; exact hk
theorem lateOut_ok_len {l : List Lay} {k a : Int} (h : lateOk l k a = true) : (lateOut l k a).length = l.length := by rw [lateOut, if_pos h, lateL_len]
theorem shrTo_len {l : List Lay} {ss : List Int} {k : Nat} {o : List Lay} {g : Int} (h : shrTo l ss k = some (o, g)) : o.length = l.length := by
  induction k generalizing o g with
  | zero => simp [shrTo] at h; rw [h.1]
  | succ k ih =>
    simp only [shrTo] at h
    split at h
    · cases h
    · next o' g' h' =>
      split at h
      · next ok =>
        simp only [Option.some.injEq, Prod.mk.injEq] at h
        rw [← h.1, lateOut_ok_len ok, ih h']
      · cases h
theorem shOut_len (l : List Lay) (a : Int) : (shOut l a).length ≤ 24 := by
  cases h : shareL l a with
  | none => rw [(shareL_no h).1]; simp
  | some p =>
    obtain ⟨o, g⟩ := p
    rw [(shareL_yes h).1]
    unfold shareL at h
    split at h
    · next hc =>
      simp only [Bool.and_eq_true] at hc
      rw [shrTo_len h]; exact areLayers_len hc.1
    · cases h

set_option maxHeartbeats 2000000 in
theorem implShareLate (A : Option Addr) (n c : Nat) (l : List Lay) (a : Int) (w : World) (hr : RS w 3 A n (layCells l)) (hn : n ≤ 100000000) :
    Calls Try.prog 45 #[.slice A n c, .int .i64 a] w fun e w' => ∃ A' c', e = .returned (.tuple #[.slice A' (shOut l a).length c', .int .i64 (shGone l a), .bool (shIs l a)]) ∧
      w'.ownsRow w.heap.size 46 3 (.slice A' (shOut l a).length c') (shOut l a).length (layCells (shOut l a)) ∧ Below w.heap.size w w' := by
  have hl := Lib.hid hr.lay
  obtain ⟨i0, hi, hz0, hz1, hz2⟩ := info_parts intInfo
  cases h : areLayers l
  · obtain ⟨e1, e2, e3⟩ := shareL_no (show shareL l a = none by simp [shareL, h])
    rw [e1, e2, e3]; clear e1 e2 e3
    go_enter Try.func45, Try.ntmps45
    go_wp2_with (go_at_call 29; refine (implAreLayers _ _ _ l _ hr (by omega)).mono ?_; rw [h]; rintro e w1 ⟨rfl, hb1⟩)
    go_ret3
    exact ⟨none, 0, rfl, World.ownsRow_nil _ _ _ _, hb1⟩
  · have H := Lib.hid h
    rcases Nat.eq_zero_or_pos n with h0 | h0
    · obtain ⟨e1, e2, e3⟩ := shareL_no (show shareL l a = none by have : l.length = 0 := by rw [hl.out]; exact h0
                                                                  simp [shareL, this])
      rw [e1, e2, e3]; clear e1 e2 e3
      clear h
      subst h0
      go_enter Try.func45, Try.ntmps45
      go_wp2_with (go_at_call 29; refine (implAreLayers _ _ _ l _ hr (by omega)).mono ?_; rw [H.out]; rintro e w1 ⟨rfl, hb1⟩)
      go_ret3
      exact ⟨none, 0, rfl, World.ownsRow_nil _ _ _ _, hb1⟩
    · have n24 : n ≤ 24 := by rw [← hl.out]; exact areLayers_len h
      have hn0 : ((n : Int) == 0) = false := by simp; omega
      have hq := Lib.hid (quant_are h (by rw [hl.out]; exact h0))
      clear h
      go_enter Try.func45, Try.ntmps45
      go_wp2_with fail
      refine (implAreLayers _ _ _ l _ hr (by omega)).mono ?_; rw [H.out]; rintro e w1 ⟨rfl, hb1⟩
      go_wp2_with fail
      go_loopw [7, 30] (fun v i wr => ∃ k : Nat, k ≤ n ∧ i = .int .i64 k ∧ Below w.heap.size w wr ∧ ∃ A' c', v = .slice A' k c' ∧ wr.ownsRow w.heap.size 3 1 (.slice A' k c') k (intCells (quant (l.take k)))) (fun _ i _ => n - (intOf i).toNat)
      case atStart => exact ⟨0, Nat.zero_le _, rfl, hb1.alloc hb1.size _, _, _, rfl, own_empty w1 _ _ _ hb1.size⟩
      case round =>
        obtain ⟨k, hk, rfl, hb, A', c', rfl, ho⟩ := hrel
        by_cases hlt : k < n
        · obtain ⟨g, off, rfl, q, v, u, hx, hcq, hcv, hcu⟩ := (hr.below hb).layAt hlt
          have HX := Lib.hid (quant_take l k hx); clear hx
          go_wp2_with (at_builtin; refine wpList_app _ rfl _ _ _ rfl w.heap.size 3 i0 _ 1 8 Try.underlying47 hi hz0 hz1 hz2 rfl (by omega) _ k (intCells (quant (l.take k))) rfl ((ho.alloc _).alloc _) _ 1 1 (intCells [q]) rfl (RS_new2 (by simp)) (intCells_one _) (by unfold maxLen; omega) (by omega) (by have := hb.size; simp; omega) ?_; intro A2 c2 w2 ho2 _ _ hb2)
          go_roundw
          case rel =>
            rw [← List.map_append, ← HX.out] at ho2
            exact ⟨k + 1, by omega, by go_num, ((hb.alloc hb.size _).alloc (by have := hb.size; simp; omega) _).trans hb2, A2, c2, rfl, ho2⟩
          case measure => simp [intOf]; omega
        · obtain rfl : n = k := by omega
          rw [List.take_of_length_le (by rw [hl.out]; exact Nat.le_refl _)] at ho
          have hcc : n ≤ c' := by
            obtain ⟨A3, c3, e, h1, _⟩ := own_slice ho
            injection e with _ _ e
            omega
          clear hb1
          go_wp2_with fail
          refine (implApportion _ _ _ _ (quant l) _ (RS.of_own ho) (by omega) hcc).mono ?_; rintro e w2 ⟨A2, c2, rfl, ho2, hb2⟩
          have b2 := below_app hb hb2 hb.size
          have rs := RS.of_own ho2
          clear ho ho2 hb hb2
          cases ok : shareOk a (quant l)
          · obtain ⟨e1, e2, e3⟩ := shareL_no (show shareL l a = none by simp [shareL, ok])
            have E1 := Lib.hid e1; have E2 := Lib.hid e2; have E3 := Lib.hid e3; clear e1 e2 e3
            go_wp2_with fail
            go_ret3
            rw [E1.out, E2.out, E3.out]
            exact ⟨none, 0, rfl, World.ownsRow_nil _ _ _ _, b2⟩
          · have eL := Lib.hid (shareL_go H.out (by rw [hl.out]; exact h0) ok)
            have AL := Lib.hid (fun k (hk : k < n) => appOut_at ok (k := k) (by rw [quant_len, hl.out]; exact hk))
            have el : (appOut a (quant l)).length = n := by rw [appOut, if_pos ok, appTo_len, quant_len, hl.out]
            rw [el] at rs ⊢
            clear ok el
            generalize appOut a (quant l) = ss at *
            go_wp2_with fail
            refine (copyLayers_any _ _ _ l _ (hr.below b2) (by omega)).mono ?_; rintro e w3 ⟨A3, c3, rfl, ho3, hb3⟩
            have b3 := below_then b2 hb3
            have ho3 := own_base ho3 b2.size
            have rs := rs.below hb3
            clear hb3 b2
            go_wp2_with fail
            go_loopw [12, 13, 52] (fun v t i wr => ∃ (k : Nat) (o : List Lay) (g : Int) (A' : Option Addr) (c' : Nat), k ≤ n ∧ i = .int .i64 k ∧ t = .int .i64 g ∧ -(k * 24000000000) ≤ g ∧ g ≤ k * 24000000000 ∧ Hid (shrTo l ss k = some (o, g)) ∧ Below w3.heap.size w3 wr ∧ v = .slice A' n c' ∧ wr.ownsRow w.heap.size 46 3 (.slice A' n c') n (layCells o)) (fun _ _ i _ => n - (intOf i).toNat)
            case atStart => exact ⟨0, l, 0, _, _, Nat.zero_le _, rfl, rfl, by omega, by omega, rfl, Below.refl _ _, rfl, ho3⟩
            case round =>
              obtain ⟨k, o, g, A', c', hk, rfl, rfl, hg1, hg2, hs, hb, rfl, ho⟩ := hrel
              clear ho3
              have hbB := below_app b3 hb b3.size
              by_cases hlt : k < n
              · obtain ⟨s, hss⟩ := AL.out k hlt
                obtain ⟨g', off, rfl, x, hx, hcx⟩ := (rs.below hb).intAt hlt
                obtain rfl : x = s := by rw [hx] at hss; injection hss
                have hd := lateGone_bd o k x
                have HX := Lib.hid hx; clear hx hss
                cases ok : lateOk o (k : Int) x
                · have SN := Lib.hid (shrTo_none (shrTo_no hs.out HX.out ok) n (by omega))
                  obtain ⟨e1, e2, e3⟩ := shareL_no (show shareL l a = none by rw [eL.out, hl.out]; exact SN.out)
                  have E1 := Lib.hid e1; have E2 := Lib.hid e2; have E3 := Lib.hid e3; clear e1 e2 e3
                  have xl := lateOut_len o k x
                  go_wp2_with (go_at_call 19; refine (implAddLate _ _ _ o _ _ _ (RS.of_own ho) (by omega)).mono ?_; rw [ok]; rintro e w4 ⟨A4, c4, rfl, ho4, hb4⟩)
                  go_ret3
                  rw [E1.out, E2.out, E3.out]
                  exact ⟨none, 0, rfl, World.ownsRow_nil _ _ _ _, below_app hbB hb4 hbB.size⟩
                · have SY := Lib.hid (shrTo_yes hs.out HX.out ok)
                  have xl := lateOut_ok_len ok
                  rw [own_lay ho] at xl
                  have XL := Lib.hid xl; have OK := Lib.hid ok
                  clear xl ok
                  go_wp2_with (go_at_call 19; refine (implAddLate _ _ _ o _ _ _ (RS.of_own ho) (by omega)).mono ?_; rw [OK.out, XL.out]; rintro e w4 ⟨A4, c4, rfl, ho4, hb4⟩)
                  go_roundw
                  case rel => exact ⟨k + 1, lateOut o k x, g + lateGone o k x, A4, c4, by omega, by go_num, by go_num, by omega, by omega, SY.out, below_app hb hb4 hb.size, rfl, own_base ho4 hbB.size⟩
                  case measure => simp [intOf]; omega
              · obtain rfl : n = k := by omega
                obtain ⟨e1, e2, e3⟩ := shareL_yes (show shareL l a = some (o, g) by rw [eL.out, hl.out]; exact hs.out)
                have E1 := Lib.hid e1; have E2 := Lib.hid e2; have E3 := Lib.hid e3; clear e1 e2 e3
                have OL := Lib.hid (own_lay ho)
                go_wp2_with fail
                go_ret3
                rw [E1.out, E2.out, E3.out, OL.out]
                exact ⟨A', c', rfl, ho, hbB⟩
set_option maxHeartbeats 2000000 in
theorem specShareLate (A : Option Addr) (n c : Nat) (l : List Lay) (a : Int) (w : World) (hr : RS w 3 A n (layCells l)) (hn : n ≤ 100000000) :
    Calls Try.prog 44 #[.slice A n c, .int .i64 a] w fun e w' => ∃ A' c', e = .returned (.tuple #[.slice A' (shOut l a).length c', .int .i64 (shGone l a), .bool (shIs l a)]) ∧
      w'.ownsRow w.heap.size 46 3 (.slice A' (shOut l a).length c') (shOut l a).length (layCells (shOut l a)) ∧ Below w.heap.size w w' := by
  have hl := Lib.hid hr.lay
  obtain ⟨i0, hi, hz0, hz1, hz2⟩ := info_parts intInfo
  obtain ⟨j0, hj, hy0, hy1, hy2⟩ := info_parts layInfo
  cases h : areLayers l
  · obtain ⟨e1, e2, e3⟩ := shareL_no (show shareL l a = none by simp [shareL, h])
    rw [e1, e2, e3]; clear e1 e2 e3
    go_enter Try.func44, Try.ntmps44
    go_wp2_with (go_at_call 27; refine (specAreLayers _ _ _ l _ hr (by omega)).mono ?_; rw [h]; rintro e w1 ⟨rfl, hb1⟩)
    go_ret3
    exact ⟨_, _, rfl, own_empty _ _ _ _ hb1.size, hb1.alloc hb1.size _⟩
  · have H := Lib.hid h
    rcases Nat.eq_zero_or_pos n with h0 | h0
    · obtain ⟨e1, e2, e3⟩ := shareL_no (show shareL l a = none by have : l.length = 0 := by rw [hl.out]; exact h0
                                                                  simp [shareL, this])
      rw [e1, e2, e3]; clear e1 e2 e3
      clear h
      subst h0
      go_enter Try.func44, Try.ntmps44
      go_wp2_with (go_at_call 27; refine (specAreLayers _ _ _ l _ hr (by omega)).mono ?_; rw [H.out]; rintro e w1 ⟨rfl, hb1⟩)
      go_ret3
      exact ⟨_, _, rfl, own_empty _ _ _ _ hb1.size, hb1.alloc hb1.size _⟩
    · have n24 : n ≤ 24 := by rw [← hl.out]; exact areLayers_len h
      have hn0 : ((n : Int) == 0) = false := by simp; omega
      have hq := Lib.hid (quant_are h (by rw [hl.out]; exact h0))
      clear h
      go_enter Try.func44, Try.ntmps44
      go_wp2_with fail
      refine (specAreLayers _ _ _ l _ hr (by omega)).mono ?_; rw [H.out]; rintro e w1 ⟨rfl, hb1⟩
      go_wp2_with fail
      go_loopw [7, 8] (fun v i wr => ∃ k : Nat, k ≤ n ∧ i = .int .i64 k ∧ Below w.heap.size w wr ∧ ∃ A' c', v = .slice A' k c' ∧ wr.ownsRow w.heap.size 3 1 (.slice A' k c') k (intCells (quant (l.take k)))) (fun _ i _ => n - (intOf i).toNat)
      case atStart => exact ⟨0, Nat.zero_le _, rfl, hb1.alloc hb1.size _, _, _, rfl, own_empty w1 _ _ _ hb1.size⟩
      case round =>
        obtain ⟨k, hk, rfl, hb, A', c', rfl, ho⟩ := hrel
        by_cases hlt : k < n
        · obtain ⟨g, off, rfl, q, v, u, hx, hcq, hcv, hcu⟩ := (hr.below hb).layAt hlt
          have HX := Lib.hid (quant_take l k hx); clear hx
          have i1 : (0 : Int) ≤ k := by omega
          have i2 : (k : Int) < n := by omega
          go_wp2_with (at_builtin; refine wpList_app _ rfl _ _ _ rfl w.heap.size 3 i0 _ 1 8 Try.underlying47 hi hz0 hz1 hz2 rfl (by omega) _ k (intCells (quant (l.take k))) rfl (ho.alloc _) _ 1 1 (intCells [q]) rfl (RS_new (by simp)) (intCells_one _) (by unfold maxLen; omega) (by omega) (by have := hb.size; simp; omega) ?_; intro A2 c2 w2 ho2 _ _ hb2)
          go_roundw
          case rel =>
            rw [← List.map_append, ← HX.out] at ho2
            exact ⟨k + 1, by omega, by go_num, (hb.alloc hb.size _).trans hb2, A2, c2, rfl, ho2⟩
          case measure => simp [intOf]; omega
        · obtain rfl : n = k := by omega
          rw [List.take_of_length_le (by rw [hl.out]; exact Nat.le_refl _)] at ho
          have hcc : n ≤ c' := by
            obtain ⟨A3, c3, e, h1, _⟩ := own_slice ho
            injection e with _ _ e
            omega
          clear hb1
          go_wp2_with fail
          refine (specApportion _ _ _ _ (quant l) _ (RS.of_own ho) (by omega) hcc).mono ?_; rintro e w2 ⟨A2, c2, rfl, ho2, hb2⟩
          have b2 := below_app hb hb2 hb.size
          have rs := RS.of_own ho2
          clear ho ho2 hb hb2
          cases ok : shareOk a (quant l)
          · obtain ⟨e1, e2, e3⟩ := shareL_no (show shareL l a = none by simp [shareL, ok])
            have E1 := Lib.hid e1; have E2 := Lib.hid e2; have E3 := Lib.hid e3; clear e1 e2 e3
            have el : appOut a (quant l) = [] := by simp [appOut, ok]
            rw [el] at rs ⊢
            have zl := Nat.zero_le n
            clear el ok
            go_wp2_with (at_builtin; refine wpList_app _ rfl _ _ _ rfl w2.heap.size 46 j0 _ 3 24 Try.underlying24 hj hy0 hy1 hy2 rfl (by omega) _ 0 [] rfl (own_empty w2 w2.heap.size 46 3 (Nat.le_refl _)) A n c (layCells l) rfl ((hr.below b2).alloc _) (layCells_one l) (by unfold maxLen; omega) (by omega) (by simp) ?_; intro A3 c3 w3 ho3 _ _ hb3)
            have hb23 := (below_box w2 _).trans hb3
            have b3 := below_then b2 hb23
            refine wp_loop_once ?_
            go_wp2_with fail
            go_ret3
            rw [E1.out, E2.out, E3.out]
            exact ⟨_, _, rfl, own_empty _ _ _ _ b3.size, b3.alloc b3.size _⟩
          · have eL := Lib.hid (shareL_go H.out (by rw [hl.out]; exact h0) ok)
            have AL := Lib.hid (fun k (hk : k < n) => appOut_at ok (k := k) (by rw [quant_len, hl.out]; exact hk))
            have el : (appOut a (quant l)).length = n := by rw [appOut, if_pos ok, appTo_len, quant_len, hl.out]
            rw [el] at rs ⊢
            clear ok el
            generalize appOut a (quant l) = ss at *
            go_wp2_with (at_builtin; refine wpList_app _ rfl _ _ _ rfl w2.heap.size 46 j0 _ 3 24 Try.underlying24 hj hy0 hy1 hy2 rfl (by omega) _ 0 [] rfl (own_empty w2 w2.heap.size 46 3 (Nat.le_refl _)) A n c (layCells l) rfl ((hr.below b2).alloc _) (layCells_one l) (by unfold maxLen; omega) (by omega) (by simp) ?_; intro A3 c3 w3 ho3 _ _ hb3; simp only [Nat.zero_add, List.nil_append] at ho3)
            have hb23 := (below_box w2 _).trans hb3
            have b3 := below_then b2 hb23
            have ho3 := own_base ho3 b2.size
            have rs := rs.below hb23
            clear hb3 b2 hb23
            go_loopw [10, 11, 12, 13] (fun b v t i wr => ∃ (k m : Nat) (is : Bool) (o : List Lay) (g : Int) (A' : Option Addr) (c' : Nat), k ≤ n ∧ i = .int .i64 k ∧ b = .bool is ∧ t = .int .i64 g ∧ -(k * 24000000000) ≤ g ∧ g ≤ k * 24000000000 ∧ m ≤ 24 ∧ Hid (if is then shrTo l ss k = some (o, g) else shrTo l ss n = none) ∧ Below w3.heap.size w3 wr ∧ v = .slice A' m c' ∧ wr.ownsRow w.heap.size 46 3 (.slice A' m c') m (layCells o)) (fun _ _ _ i _ => n - (intOf i).toNat)
            case atStart => exact ⟨0, n, true, l, 0, _, _, Nat.zero_le _, rfl, rfl, rfl, by omega, by omega, n24, rfl, Below.refl _ _, rfl, ho3⟩
            case round =>
              obtain ⟨k, m, is, o, g, A', c', hk, rfl, rfl, rfl, hg1, hg2, hm, hs, hb, rfl, ho⟩ := hrel
              clear ho3
              have hbB := below_app b3 hb b3.size
              cases is
              · have SN := Lib.hid (show shrTo l ss n = none from hs.out)
                clear hs
                obtain ⟨e1, e2, e3⟩ := shareL_no (show shareL l a = none by rw [eL.out, hl.out]; exact SN.out)
                have E1 := Lib.hid e1; have E2 := Lib.hid e2; have E3 := Lib.hid e3; clear e1 e2 e3
                by_cases hlt : k < n
                all_goals
                  go_wp2_with fail
                  go_ret3
                  rw [E1.out, E2.out, E3.out]
                  exact ⟨_, _, rfl, own_empty _ _ _ _ hbB.size, hbB.alloc hbB.size _⟩
              · have SS := Lib.hid (show shrTo l ss k = some (o, g) from hs.out)
                clear hs
                by_cases hlt : k < n
                · obtain ⟨s, hss⟩ := AL.out k hlt
                  obtain ⟨g', off, rfl, x, hx, hcx⟩ := (rs.below hb).intAt hlt
                  obtain rfl : x = s := by rw [hx] at hss; injection hss
                  have hd := lateGone_bd o k x
                  have HX := Lib.hid hx; clear hx hss
                  have i1 : (0 : Int) ≤ k := by omega
                  have i2 : (k : Int) < n := by omega
                  have xl := lateOut_len o k x
                  cases ok : lateOk o (k : Int) x
                  · have SN := Lib.hid (shrTo_none (shrTo_no SS.out HX.out ok) n (by omega))
                    go_wp2_with (go_at_call 20; refine (specAddLate _ _ _ o _ _ _ (RS.of_own ho) (by omega)).mono ?_; rw [ok]; rintro e w4 ⟨A4, c4, rfl, ho4, hb4⟩)
                    go_roundw
                    case rel => exact ⟨k + 1, _, false, lateOut o k x, g + lateGone o k x, A4, c4, by omega, by go_num, rfl, by go_num, by omega, by omega, xl, SN.out, below_app hb hb4 hb.size, rfl, own_base ho4 hbB.size⟩
                    case measure => simp [intOf]; omega
                  · have SY := Lib.hid (shrTo_yes SS.out HX.out ok)
                    have OK := Lib.hid ok
                    clear ok
                    go_wp2_with (go_at_call 20; refine (specAddLate _ _ _ o _ _ _ (RS.of_own ho) (by omega)).mono ?_; rw [OK.out]; rintro e w4 ⟨A4, c4, rfl, ho4, hb4⟩)
                    go_roundw
                    case rel => exact ⟨k + 1, _, true, lateOut o k x, g + lateGone o k x, A4, c4, by omega, by go_num, rfl, by go_num, by omega, by omega, xl, SY.out, below_app hb hb4 hb.size, rfl, own_base ho4 hbB.size⟩
                    case measure => simp [intOf]; omega
                · obtain rfl : n = k := by omega
                  obtain ⟨e1, e2, e3⟩ := shareL_yes (show shareL l a = some (o, g) by rw [eL.out, hl.out]; exact SS.out)
                  have E1 := Lib.hid e1; have E2 := Lib.hid e2; have E3 := Lib.hid e3; clear e1 e2 e3
                  have OL := Lib.hid (own_lay ho)
                  go_wp2_with fail
                  go_ret3
                  rw [E1.out, E2.out, E3.out, OL.out]
                  exact ⟨A', c', rfl, ho, hbB⟩
end Go.Proofs.Ytknfhiepndffpaa
