/- A pool divided into parts: the plain words, and the walks of SplitPool. -/
import Derived.Test.YtijnkofnpoapnaaSPool
import Derived.Test.YtijnkofnpoapnaaPoolB
import Derived.Test.YtijnkofnpoapnaaInts2
import Derived.Deep.RegionHeld3
import Derived.Deep.AppendLies
namespace Go.Proofs.Ytijnkofnpoapnaa
open Go.ChangeShapes Go.WideShapes Go.ChangeAt Go.RowKit

def upB (l : List Int) : Bool := l.all fun x => inB x 0 1000000000
theorem upB_ups {l : List Int} (h : upB l = true) : ups 1000000000 l := by
  intro x hx
  simp only [upB, List.all_eq_true] at h
  exact inB_true.1 (h x hx)
theorem upB_bad {l : List Int} {k : Nat} {x : Int} (hx : l[k]? = some x) (h : inB x 0 1000000000 = false) : upB l = false := by
  unfold upB
  rw [List.all_eq_false]; exact ⟨x, List.mem_of_getElem? hx, by simp [h]⟩
theorem upB_good {l : List Int} (h : ∀ (j : Nat) (x : Int), l[j]? = some x → inB x 0 1000000000 = true) : upB l = true := by
  unfold upB
  rw [List.all_eq_true]; intro x hx
  obtain ⟨j, hj, rfl⟩ := List.getElem_of_mem hx
  exact h j _ (List.getElem?_eq_getElem hj)
def splitOk (q v : Int) (l : List Int) : Bool := isPool q v && (decide (0 < q) && (decide (l.length ≤ 40) && (upB l && decide (l.sum = q))))
def splitTo (q v : Int) (l : List Int) (k : Nat) : List Po := (List.range k).map fun j => ⟨l.getD j 0, v * sumI l (j + 1) / q - v * sumI l j / q⟩
theorem splitTo_zero (q v : Int) (l : List Int) : splitTo q v l 0 = [] := rfl
theorem splitTo_succ {q v : Int} {l : List Int} {k : Nat} {x : Int} (h : l[k]? = some x) : splitTo q v l (k + 1) = splitTo q v l k ++ [⟨x, v * (sumI l k + x) / q - v * sumI l k / q⟩] := by
  have e : l.getD k 0 = x := by rw [List.getD_eq_getElem?_getD, h]; rfl
  simp only [splitTo, List.range_succ, List.map_append, List.map_cons, List.map_nil]
  rw [sumI_succ h, e]
theorem splitTo_len (q v : Int) (l : List Int) (k : Nat) : (splitTo q v l k).length = k := by simp [splitTo]
def splitOut (q v : Int) (l : List Int) : List Po := if splitOk q v l then splitTo q v l l.length else []
theorem splitOut_len (q v : Int) (l : List Int) : (splitOut q v l).length ≤ 40 := by
  unfold splitOut; split
  · next h =>
    simp only [splitOk, Bool.and_eq_true, decide_eq_true_eq] at h
    rw [splitTo_len]; exact h.2.2.1
  · simp
theorem split_no {q v : Int} {l : List Int} (h : splitOk q v l = false) : splitOut q v l = [] := by simp [splitOut, h]
/-- What the walk of a round wants to know. -/
theorem split_facts {q v x : Int} {l : List Int} {k : Nat} (hp : isPool q v = true) (hq : 0 < q) (hu : ups 1000000000 l) (hs : l.sum = q) (hx : l[k]? = some x) :
    0 ≤ x ∧ x ≤ 1000000000 ∧ 0 ≤ sumI l k ∧ sumI l k + x ≤ q ∧ 0 ≤ v * sumI l k ∧ v * sumI l k ≤ 1000000000000000000 ∧ 0 ≤ v * (sumI l k + x) ∧ v * (sumI l k + x) ≤ 1000000000000000000 ∧ 0 ≤ v * sumI l k / q ∧ v * sumI l k / q ≤ v ∧ 0 ≤ v * (sumI l k + x) / q ∧ v * (sumI l k + x) / q ≤ v ∧ v * sumI l k / q ≤ v * (sumI l k + x) / q := by
  have p := isPool_true hp
  have hk := (List.getElem?_eq_some_iff.1 hx).1
  have hx1 := hu x (List.mem_of_getElem? hx)
  have b1 := sumI_bd hu k (by omega)
  have b2 := sumI_le hu (k + 1) (by omega)
  rw [sumI_succ hx, hs] at b2
  have m1 := mul_bd (a := v) (b := sumI l k) (M := 1000000000) (N := 1000000000) (by omega) (by omega) (by omega) (by omega)
  have m2 := mul_bd (a := v) (b := sumI l k + x) (M := 1000000000) (N := 1000000000) (by omega) (by omega) (by omega) (by omega)
  have n1 : 0 ≤ v * sumI l k := Int.mul_nonneg (by omega) (by omega)
  have n2 : 0 ≤ v * (sumI l k + x) := Int.mul_nonneg (by omega) (by omega)
  have s1 := share_bd (q := q) (v := v) (n := sumI l k) hq (by omega) (by omega) (by omega)
  have s2 := share_bd (q := q) (v := v) (n := sumI l k + x) hq (by omega) (by omega) (by omega)
  have mo : v * sumI l k / q ≤ v * (sumI l k + x) / q := Int.ediv_le_ediv hq (Int.mul_le_mul_of_nonneg_left (by omega) (by omega))
  exact ⟨hx1.1, hx1.2, b1.1, b2, n1, by omega, n2, by omega, s1.1, s1.2, s2.1, s2.2, mo⟩
/-- Each part is a pool. -/
theorem split_pool {q v : Int} {l : List Int} (hp : isPool q v = true) (hq : 0 < q) (hu : ups 1000000000 l) (hs : l.sum = q) {k n : Nat} {p : Po} (hn : n ≤ l.length) (h : (splitTo q v l n)[k]? = some p) : isPool p.q p.v = true := by
  have hk : k < n := by have := (List.getElem?_eq_some_iff.1 h).1; rwa [splitTo_len] at this
  have hx : l[k]? = some l[k] := List.getElem?_eq_getElem (by omega)
  have f := split_facts hp hq hu hs hx
  have pp := isPool_true hp
  have e : l.getD k 0 = l[k] := by rw [List.getD_eq_getElem?_getD, hx]; rfl
  simp only [splitTo, List.getElem?_map, List.getElem?_range hk, Option.map_some, Option.some.injEq] at h
  rw [sumI_succ hx, e] at h
  rw [← h]
  simp only [isPool, inB, Bool.and_eq_true, Bool.or_eq_true, decide_eq_true_eq, beq_iff_eq]
  refine ⟨⟨by omega, by omega⟩, ⟨by omega, by omega⟩, ?_⟩
  by_cases h0 : l[k] = 0
  · right; rw [h0]; simp
  · left; omega

set_option maxRecDepth 100000 in
set_option maxHeartbeats 2000000 in
theorem implSplit (q v : Int) (A : Option Addr) (n c : Nat) (l : List Int) (w : World) (hr : RS w 1 A n (intCells l)) (hn : n ≤ 9223372036854775807) :
    Calls Try.prog 17 #[.agg #[.int .i64 q, .int .i64 v], .slice A n c] w fun e w' => ∃ A' c', e = .returned (.tuple #[.slice A' (splitOut q v l).length c', .bool (splitOk q v l)]) ∧
      w'.ownsRow w.heap.size 27 2 (.slice A' (splitOut q v l).length c') (splitOut q v l).length ((splitOut q v l).flatMap poCell) ∧ Below w.heap.size w w' := by
  have hl := Lib.hid hr.ints
  obtain ⟨i0, hi, hz0, hz1, hz2⟩ := info_parts poInfo
  have no : splitOk q v l = false → ∀ w', Below w.heap.size w w' → ∃ A' c', Ending.returned (.tuple #[.slice none 0 0, .bool false]) = Ending.returned (.tuple #[.slice A' (splitOut q v l).length c', .bool (splitOk q v l)]) ∧ w'.ownsRow w.heap.size 27 2 (.slice A' (splitOut q v l).length c') (splitOut q v l).length ((splitOut q v l).flatMap poCell) ∧ Below w.heap.size w w' := fun h w' hb => by
    rw [split_no h, h]; exact ⟨none, 0, rfl, World.ownsRow_nil _ _ _ _, hb⟩
  have NO := Lib.hid no; clear no
  cases hp : isPool q v
  · go_enter Try.func17, Try.ntmps17
    go_wp2_with fail
    refine (implIsPool _ _ _).mono ?_; rw [hp]; rintro e w1 ⟨rfl, hb1⟩
    go_wp2_with fail
    go_ret2
    exact NO.out (by simp [splitOk, hp]) _ (below_then (below_box w _) hb1)
  have HP := Lib.hid hp
  have pp := isPool_true hp
  clear hp
  by_cases hq : 0 < q
  case neg =>
    obtain rfl : q = 0 := by omega
    go_enter Try.func17, Try.ntmps17
    go_wp2_with fail
    refine (implIsPool _ _ _).mono ?_; rw [HP.out]; rintro e w1 ⟨rfl, hb1⟩
    have X := Lib.hid (blk_keep hb1 (blk_new1 w _))
    have x0 := blk_at X.out (j := 0) rfl
    go_wp2_with fail
    go_ret2
    exact NO.out (by simp [splitOk]) _ (below_then (below_box w _) hb1)
  have hqz : (q == 0) = false := by simp; omega
  by_cases h40 : n ≤ 40
  case neg =>
    go_enter Try.func17, Try.ntmps17
    go_wp2_with fail
    refine (implIsPool _ _ _).mono ?_; rw [HP.out]; rintro e w1 ⟨rfl, hb1⟩
    have X := Lib.hid (blk_keep hb1 (blk_new1 w _))
    have x0 := blk_at X.out (j := 0) rfl
    go_wp2_with fail
    go_ret2
    exact NO.out (by have := hl.out; simp [splitOk]; omega) _ (below_then (below_box w _) hb1)
  go_enter Try.func17, Try.ntmps17
  go_wp2_with fail
  refine (implIsPool _ _ _).mono ?_; rw [HP.out]; rintro e w1 ⟨rfl, hb1⟩
  have X := Lib.hid (blk_keep hb1 (blk_new1 w _))
  have x0 := blk_at X.out (j := 0) rfl
  have b1 := below_then (below_box w _) hb1
  have hr1 := hr.below b1
  have z1 := b1.size
  clear hb1
  go_wp2_with fail
  go_loop [28] (fun i => ∃ k : Nat, k ≤ n ∧ i = .int .i64 k ∧ Hid (∀ (j : Nat) (x : Int), j < k → l[j]? = some x → inB x 0 1000000000 = true)) (fun i => n - (intOf i).toNat)
  case atStart => exact ⟨0, Nat.zero_le _, rfl, fun j x h => absurd h (Nat.not_lt_zero _)⟩
  case round =>
    obtain ⟨k, hk, rfl, hgood⟩ := hrel
    by_cases hlt : k < n
    · obtain ⟨g, off, rfl, x, hx, hc⟩ := hr1.intAt hlt
      have HX := Lib.hid hx; clear hx
      cases hb : inB x 0 1000000000
      · go_wp2_with (go_at_call 58; refine (impl_in _ _ _ _).mono ?_; rw [hb]; rintro e w' ⟨rfl, rfl⟩)
        go_ret2
        exact NO.out (by simp [splitOk, upB_bad HX.out hb]) _ b1
      · have HB := Lib.hid hb
        go_wp2_with (go_at_call 58; refine (impl_in _ _ _ _).mono ?_; rw [HB.out]; rintro e w' ⟨rfl, rfl⟩)
        go_round
        case rel =>
          refine ⟨k + 1, by omega, by go_num, fun j y hj hy => ?_⟩
          rcases Nat.lt_succ_iff_lt_or_eq.1 hj with h | rfl
          · exact hgood.out j y h hy
          · rw [HX.out] at hy; injection hy with hy; rw [← hy]; exact HB.out
        case measure => simp [intOf]; omega
    · obtain rfl : n = k := by omega
      have UB := Lib.hid (upB_good fun j x hx => hgood.out j x (by rw [← hl.out]; exact (List.getElem?_eq_some_iff.1 hx).1) hx)
      have U := Lib.hid (upB_ups UB.out)
      clear hgood
      by_cases hsum : l.sum = q
      case neg =>
        have hne : (l.sum != q) = true := by simpa using hsum
        have HN := Lib.hid hsum; clear hsum
        go_wp2_with fail
        go_quiet ((go_at_call 59; exact quiet_left (implSum _ _ _ l _ (hr1.drewN _) (by omega) U.out)))
        go_wp2_with fail
        go_ret2
        exact NO.out (by simp [splitOk, HN.out]) _ (below_drewN b1 _)
      have HS := Lib.hid hsum
      have hok : splitOk q v l = true := by have := hl.out; simp [splitOk, HP.out, hq, UB.out, hsum]; omega
      have EO := Lib.hid (show splitOut q v l = splitTo q v l n by rw [splitOut, if_pos hok, hl.out])
      have HOK := Lib.hid hok
      have hne : (l.sum != q) = false := by simpa using hsum
      clear hok hsum
      go_wp2_with fail
      go_quiet ((go_at_call 59; exact quiet_left (implSum _ _ _ l _ (hr1.drewN _) (by omega) U.out)))
      have b2 := below_drewN b1 nq
      have hr2 := hr1.drewN nq
      have X := Lib.hid (show (w1.drewN nq).heap[w.heap.size]? = _ from X.out)
      clear hne x0
      generalize w1.drewN nq = w2 at *
      go_wp2_with fail
      go_loopw [8, 9, 44] (fun o t i wr => ∃ k : Nat, k ≤ n ∧ i = .int .i64 k ∧ t = .int .i64 (sumI l k) ∧ Below w2.heap.size w2 wr ∧ ∃ A' c', o = .slice A' k c' ∧ wr.ownsRow w2.heap.size 27 2 (.slice A' k c') k ((splitTo q v l k).flatMap poCell)) (fun _ _ i _ => n - (intOf i).toNat)
      case atStart => exact ⟨0, Nat.zero_le _, rfl, by rw [sumI_zero], below_box w2 _, _, _, rfl, own_empty w2 _ _ _ (Nat.le_refl _)⟩
      case round =>
        obtain ⟨k, hk, rfl, rfl, hb, A', c', rfl, ho⟩ := hrel
        by_cases hlt : k < n
        · obtain ⟨g, off, rfl, x, hx, hc⟩ := (hr2.below hb).intAt hlt
          obtain ⟨f1, f2, f3, f4, f5, f6, f7, f8, f9, f10, f11, f12, f13⟩ := split_facts HP.out hq U.out HS.out hx
          have ST := Lib.hid (splitTo_succ (q := q) (v := v) hx)
          have SS := Lib.hid (sumI_succ hx)
          have Y := Lib.hid (blk_keep hb X.out)
          have y0 := blk_at Y.out (j := 0) rfl; have y1 := blk_at Y.out (j := 1) rfl
          clear hx
          go_wp2_with (at_builtin; refine wpList_app _ rfl _ _ _ rfl w2.heap.size 27 i0 _ 2 16 Try.underlying32 hi hz0 hz1 hz2 rfl (by omega) _ k ((splitTo q v l k).flatMap poCell) rfl (ho.alloc _) _ 1 1 (poCell ⟨x, v * (sumI l k + x) / q - v * sumI l k / q⟩) rfl (RS_new (by simp)) (poCell_one _) (by unfold maxLen; omega) (by omega) (by have := hb.size; simp; omega) ?_; intro A2 c2 w3 ho2 _ _ hb3)
          have b3 := (hb.alloc hb.size _).trans hb3
          go_roundw
          case rel =>
            rw [← flat_one poCell, ← flat_append, ← ST.out] at ho2
            exact ⟨k + 1, by omega, by go_num, by rw [SS.out], b3, A2, c2, rfl, ho2⟩
          case measure => simp [intOf]; omega
        · obtain rfl : n = k := by omega
          go_wp2_with fail
          go_ret2
          rw [EO.out, HOK.out, splitTo_len]
          exact ⟨A', c', rfl, own_base ho b2.size, below_app b2 hb b2.size⟩
set_option maxRecDepth 100000 in
set_option maxHeartbeats 4000000 in
theorem specSplit (q v : Int) (A : Option Addr) (n c : Nat) (l : List Int) (w : World) (hr : RS w 1 A n (intCells l)) (hn : n ≤ 9223372036854775807) :
    Calls Try.prog 15 #[.agg #[.int .i64 q, .int .i64 v], .slice A n c] w fun e w' => ∃ A' c', e = .returned (.tuple #[.slice A' (splitOut q v l).length c', .bool (splitOk q v l)]) ∧
      w'.ownsRow w.heap.size 27 2 (.slice A' (splitOut q v l).length c') (splitOut q v l).length ((splitOut q v l).flatMap poCell) ∧ Below w.heap.size w w' := by
  have hl := Lib.hid hr.ints
  obtain ⟨i0, hi, hz0, hz1, hz2⟩ := info_parts poInfo
  have no : splitOk q v l = false → ∀ w', Below w.heap.size w w' → ∃ A' c', Ending.returned (.tuple #[.slice (some ⟨w'.heap.size, 0, none⟩) 0 0, .bool false]) = Ending.returned (.tuple #[.slice A' (splitOut q v l).length c', .bool (splitOk q v l)]) ∧ (w'.alloc (Obj.cells #[] 27)).ownsRow w.heap.size 27 2 (.slice A' (splitOut q v l).length c') (splitOut q v l).length ((splitOut q v l).flatMap poCell) ∧ Below w.heap.size w (w'.alloc (Obj.cells #[] 27)) := fun h w' hb => by
    rw [split_no h, h]; exact ⟨_, _, rfl, own_empty _ _ _ _ hb.size, hb.alloc hb.size _⟩
  have NO := Lib.hid no; clear no
  have X := Lib.hid (blk_new1 w (Obj.cells #[.int .i64 q, .int .i64 v] 27))
  have b1 := below_box w (Obj.cells #[.int .i64 q, .int .i64 v] 27)
  have hr1 := hr.below b1
  have x0 := blk_at X.out (j := 0) rfl; have x1 := blk_at X.out (j := 1) rfl
  by_cases h40 : n ≤ 40
  case neg =>
    have NN := Lib.hid (show splitOk q v l = false by have := hl.out; simp [splitOk]; omega)
    go_enter Try.func15, Try.ntmps15
    go_wp2_with fail
    refine wp_loop_once ?_
    go_wp2_with fail
    cases hp : isPool q v
    all_goals
      refine (specIsPool _ _ _).mono ?_; rw [hp]; rintro e w2 ⟨rfl, hb2⟩
      have b2 := below_then b1 hb2
      go_wp2_with fail
      go_ret2
      exact NO.out NN.out _ b2
  go_enter Try.func15, Try.ntmps15
  go_wp2_with fail
  generalize hw1 : w.alloc (Obj.cells #[.int .i64 q, .int .i64 v] 27) = w1 at *
  clear hw1
  go_loop [6, 7] (fun t i => ∃ k : Nat, k ≤ n ∧ i = .int .i64 k ∧ t = .int .i64 (sumI l k) ∧ 0 ≤ sumI l k ∧ sumI l k ≤ k * 1000000000 ∧ Hid (∀ (j : Nat) (x : Int), j < k → l[j]? = some x → inB x 0 1000000000 = true)) (fun _ i => n - (intOf i).toNat)
  case atStart => exact ⟨0, Nat.zero_le _, rfl, by rw [sumI_zero], by rw [sumI_zero]; omega, by rw [sumI_zero]; omega, fun j x h => absurd h (Nat.not_lt_zero _)⟩
  case round =>
    obtain ⟨k, hk, rfl, rfl, hs0, hs1, hgood⟩ := hrel
    by_cases hlt : k < n
    · obtain ⟨g, off, rfl, x, hx, hc⟩ := hr1.intAt hlt
      have i1 : (0 : Int) ≤ k := by omega
      have i2 : (k : Int) < n := by omega
      have HX := Lib.hid hx; clear hx
      cases hb : inB x 0 1000000000
      · go_wp2_with (go_at_call 57; refine (spec_in _ _ _ _).mono ?_; rw [hb]; rintro e w' ⟨rfl, rfl⟩)
        go_ret2
        exact NO.out (by simp [splitOk, upB_bad HX.out hb]) _ b1
      · have HB := Lib.hid hb
        have hxb := inB_true.1 hb
        have SS := Lib.hid (sumI_succ HX.out)
        go_wp2_with (go_at_call 57; refine (spec_in _ _ _ _).mono ?_; rw [HB.out]; rintro e w' ⟨rfl, rfl⟩)
        go_round
        case rel =>
          refine ⟨k + 1, by omega, by go_num, by rw [SS.out], by rw [SS.out]; omega, by rw [SS.out]; omega, fun j y hj hy => ?_⟩
          rcases Nat.lt_succ_iff_lt_or_eq.1 hj with h | rfl
          · exact hgood.out j y h hy
          · rw [HX.out] at hy; injection hy with hy; rw [← hy]; exact HB.out
        case measure => simp [intOf]; omega
    · obtain rfl : n = k := by omega
      have UB := Lib.hid (upB_good fun j x hx => hgood.out j x (by rw [← hl.out]; exact (List.getElem?_eq_some_iff.1 hx).1) hx)
      have U := Lib.hid (upB_ups UB.out)
      have SA := Lib.hid (show sumI l n = l.sum by rw [← sumI_all, hl.out])
      clear hgood
      cases hp : isPool q v
      · go_wp2_with fail
        refine (specIsPool _ _ _).mono ?_; rw [hp]; rintro e w2 ⟨rfl, hb2⟩
        go_wp2_with fail
        go_ret2
        exact NO.out (by simp [splitOk, hp]) _ (below_then b1 hb2)
      have HP := Lib.hid hp
      have pp := isPool_true hp
      clear hp
      by_cases hsum : sumI l n = q
      case neg =>
        have hne : (sumI l n != q) = true := by simpa using hsum
        have HN := Lib.hid hsum; clear hsum
        go_wp2_with fail
        refine (specIsPool _ _ _).mono ?_; rw [HP.out]; rintro e w2 ⟨rfl, hb2⟩
        have y0 := cell_keep hb2 x0
        go_wp2_with fail
        go_ret2
        exact NO.out (by have := HN.out; rw [SA.out] at this; simp [splitOk, this]) _ (below_then b1 hb2)
      have HS := Lib.hid (show l.sum = q by rw [← SA.out]; exact hsum)
      rw [hsum]
      clear hsum hs0 hs1
      by_cases hq : 0 < q
      case neg =>
        obtain rfl : q = 0 := by omega
        go_wp2_with fail
        refine (specIsPool _ _ _).mono ?_; rw [HP.out]; rintro e w2 ⟨rfl, hb2⟩
        have y0 := cell_keep hb2 x0
        go_wp2_with fail
        go_ret2
        exact NO.out (by simp [splitOk]) _ (below_then b1 hb2)
      have hqz : (q == 0) = false := by simp; omega
      have hok : splitOk q v l = true := by have := hl.out; simp [splitOk, HP.out, hq, UB.out, HS.out]; omega
      have EO := Lib.hid (show splitOut q v l = splitTo q v l n by rw [splitOut, if_pos hok, hl.out])
      have HOK := Lib.hid hok
      clear hok
      go_wp2_with fail
      refine (specIsPool _ _ _).mono ?_; rw [HP.out]; rintro e w2 ⟨rfl, hb2⟩
      have X := Lib.hid (blk_keep hb2 X.out)
      have b2 := below_then b1 hb2
      have hr2 := hr1.below hb2
      have x0 := blk_at X.out (j := 0) rfl
      clear x1 hb2 b1 hr1
      go_wp2_with fail
      go_loopw [8, 9, 10] (fun o t i wr => ∃ k : Nat, k ≤ n ∧ i = .int .i64 k ∧ t = .int .i64 (sumI l k) ∧ Below w2.heap.size w2 wr ∧ ∃ A' c', o = .slice A' k c' ∧ wr.ownsRow w2.heap.size 27 2 (.slice A' k c') k ((splitTo q v l k).flatMap poCell)) (fun _ _ i _ => n - (intOf i).toNat)
      case atStart => exact ⟨0, Nat.zero_le _, rfl, by rw [sumI_zero], below_box w2 _, _, _, rfl, own_empty w2 _ _ _ (Nat.le_refl _)⟩
      case round =>
        obtain ⟨k, hk, rfl, rfl, hb, A', c', rfl, ho⟩ := hrel
        clear x0
        by_cases hlt : k < n
        · obtain ⟨g, off, hA, x, hx, hc2⟩ := hr2.intAt hlt
          have hc := cell_keep hb hc2
          have gl : g < w2.heap.size := World.block_lt_of_cell? w2 _ hc2
          subst hA
          obtain ⟨f1, f2, f3, f4, f5, f6, f7, f8, f9, f10, f11, f12, f13⟩ := split_facts HP.out hq U.out HS.out hx
          have ST := Lib.hid (splitTo_succ (q := q) (v := v) hx)
          have SS := Lib.hid (sumI_succ hx)
          have Y := Lib.hid (blk_keep hb X.out)
          have y1 := blk_at Y.out (j := 1) rfl
          have xl : w.heap.size < w2.heap.size := (Array.getElem?_eq_some_iff.1 X.out).1
          have i1 : (0 : Int) ≤ k := by omega
          have i2 : (k : Int) < n := by omega
          have zb := hb.size
          have ag : (Value.slice A' k c').ownBlock ≠ some g := fun he => by have := (ho.lt g he).1; omega
          have ax : (Value.slice A' k c').ownBlock ≠ some w.heap.size := fun he => by have := (ho.lt _ he).1; omega
          have d1 : IntKind.i64.wrap (v * (sumI l k + x)) = v * (sumI l k + x) := IntWalk.i64_in _ (by omega)
          have d2 : IntKind.i64.wrap (v * (sumI l k + x) / q) = v * (sumI l k + x) / q := IntWalk.i64_in _ (by omega)
          have d4 : IntKind.i64.wrap ((v * (sumI l k + x)).tdiv q) = v * (sumI l k + x) / q := by rw [Int.tdiv_eq_ediv_of_nonneg f7]; exact d2
          have d3 : IntKind.i64.wrap (v * (sumI l k + x) / q - v * sumI l k / q) = v * (sumI l k + x) / q - v * sumI l k / q := IntWalk.i64_in _ (by omega)
          have hq2 : ¬ q = 0 := by omega
          clear hx hc2
          go_wp2_with fail
          go_region_held3 (fun w' => w'.cell? ⟨g, off + k, none⟩ = some (.int .i64 x) ∧ w'.cell? ⟨w.heap.size, 1, none⟩ = some (.int .i64 v))
            (first
              | go_keep
              | (go_split_ands
                 refine ⟨?_, ?_⟩
                 · (rw [hgrow.cell_far _ (by simp; omega) (Ne.symm ag)]; assumption)
                 · (rw [hgrow.cell_far _ (by simp; omega) (Ne.symm ax)]; assumption)))
            ((refine step_append_lies _ (by rfl) _ _ _ (by rfl) w2.heap.size 27 i0 _ 2 16 Try.underlying32 hi hz0 hz1 hz2 rfl (by omega) (.slice A' k c') k ((splitTo q v l k).flatMap poCell) (by rfl) ((ho.alloc _).drew)
                ⟨wr.heap.size, 0, none⟩ 1 1 [.int .i64 x, .int .i64 (v * (sumI l k + x) / q - v * sumI l k / q)] (by rfl) (by rfl) (World.news_of_block (cs := #[.int .i64 x, .int .i64 (v * (sumI l k + x) / q - v * sumI l k / q)]) (t := 27) (fr := (0, 0)) (heap_alloc_new wr _)) (by simp [Value.oneCell'])
                (by omega) (by unfold maxLen; omega) (by omega) (by simp; omega) (wr.heap.size + 1) (by simp) ?_; intro gg cap w6 os6 hgrow hat hlt'))
          have b6 : Below w2.heap.size w2 w6 := ((hb.alloc hb.size (Obj.cells #[.int .i64 x, .int .i64 (v * (sumI l k + x) / q - v * sumI l k / q)] 27)).drew).trans (below_of_grown ((ho.alloc (Obj.cells #[.int .i64 x, .int .i64 (v * (sumI l k + x) / q - v * sumI l k / q)] 27)).drew) hgrow (Nat.le_refl _) (by simp; omega))
          have os7 : w6.ownsRow w2.heap.size 27 2 (.slice (some ⟨gg, 0, none⟩) (k + 1) cap) (k + 1) ((splitTo q v l (k + 1)).flatMap poCell) := by
            rw [ST.out, flat_append, flat_one]; exact os6
          clear os6 hgrow hat d1 d2 d3 d4
          go_wp2_with fail
          go_roundw
          case rel => exact ⟨k + 1, by omega, by go_num, by rw [SS.out], b6, some ⟨gg, 0, none⟩, cap, rfl, os7⟩
          case measure => simp [intOf]; omega
        · obtain rfl : n = k := by omega
          have rs := RS.of_own ho
          have PL := Lib.hid (fun (j : Nat) (p : Po) (h : (splitTo q v l n)[j]? = some p) => split_pool HP.out hq U.out HS.out (by rw [hl.out]; exact Nat.le_refl _) h)
          have bB := below_app b2 hb b2.size
          go_wp2_with fail
          go_loopw [12] (fun i wz => ∃ k : Nat, k ≤ n ∧ i = .int .i64 k ∧ Below wr.heap.size wr wz) (fun i _ => n - (intOf i).toNat)
          case atStart => exact ⟨0, Nat.zero_le _, rfl, Below.refl _ _⟩
          case round =>
            obtain ⟨k, hk, rfl, hz⟩ := hrel
            by_cases hlt2 : k < n
            · obtain ⟨g, off, rfl, ⟨pq, pv⟩, hp, hc0, hc1⟩ := (rs.below hz).poAt hlt2
              have HPL := Lib.hid (PL.out k _ hp)
              simp only at HPL hc0 hc1
              have i1 : (0 : Int) ≤ k := by omega
              have i2 : (k : Int) < n := by omega
              clear hp
              go_wp2_with fail
              refine (specIsPool _ _ _).mono ?_; rw [HPL.out]; rintro e w9 ⟨rfl, hb9⟩
              go_wp2_with fail
              go_roundw
              case rel => exact ⟨k + 1, by omega, by go_num, below_app hz hb9 hz.size⟩
              case measure => simp [intOf]; omega
            · obtain rfl : n = k := by omega
              go_wp2_with fail
              go_ret2
              rw [EO.out, HOK.out, splitTo_len]
              exact ⟨A', c', rfl, own_below (own_base ho b2.size) hz, below_app bB hz bB.size⟩
end Go.Proofs.Ytijnkofnpoapnaa
