/- The walks of ReturnLayers. -/
import Derived.Test.YtknfhiepndffpaaLayD
import Derived.Test.YtknfhiepndffpaaLayE
import Derived.Test.YtknfhiepndffpaaLay3
namespace Go.Proofs.Ytknfhiepndffpaa
open Go.ChangeShapes Go.WideShapes Go.ChangeAt Go.RowKit

set_option maxHeartbeats 1000000 in
theorem usedOf_any (A : Option Addr) (n c : Nat) (l : List Lay) (w : World) (hr : RS w 3 A n (layCells l)) (h : areLayers l = true) :
    Calls Try.prog 59 #[.slice A n c] w fun e w' => e = .returned (.int .i64 (usedSum l)) ∧ Below w.heap.size w w' := by
  have hl := Lib.hid hr.lay
  have SB := Lib.hid (fun k hk => sumTo_bd24 (used_bd h) (by omega) (areLayers_len h) k hk)
  have AT := Lib.hid (fun k x (hx : l[k]? = some x) => areLayers_at h hx)
  have n24 : n ≤ 24 := by rw [← hl.out]; exact areLayers_len h
  clear h
  go_enter Try.func59, Try.ntmps59
  go_wp2
  go_loopw [3, 8] (fun t i wr => ∃ k : Nat, k ≤ n ∧ i = .int .i64 k ∧ t = .int .i64 (sumTo Lay.u l k) ∧ Below w.heap.size w wr) (fun _ i _ => n - (intOf i).toNat)
  case atStart => exact ⟨0, Nat.zero_le _, rfl, by rw [sumTo_zero], Below.refl _ _⟩
  case round =>
    obtain ⟨k, hk, rfl, rfl, hb⟩ := hrel
    by_cases hlt : k < n
    · obtain ⟨g, off, rfl, q, v, u, hx, hq, hv, hu⟩ := (hr.below hb).layAt hlt
      have HS := Lib.hid (sumTo_succ Lay.u hx)
      have ha := AT.out k _ hx
      have sb := SB.out k (by rw [hl.out]; omega)
      clear hx
      simp only at ha
      go_wp2
      go_roundw
      case rel => exact ⟨k + 1, by omega, by go_num, by rw [HS.out], hb.alloc hb.size _⟩
      case measure => simp [intOf]; omega
    · go_wp2
      have : k = n := by omega
      subst this
      go_ret
      exact ⟨ret_int (by show _ = sumTo Lay.u l l.length; rw [hl.out]), hb⟩

set_option maxHeartbeats 2000000 in
theorem implReturn (A : Option Addr) (n c : Nat) (l : List Lay) (r : Int) (w : World) (hr : RS w 3 A n (layCells l)) (hn : n ≤ 100000000) :
    Calls Try.prog 41 #[.slice A n c, .int .i64 r] w fun e w' => ∃ A' c', e = .returned (.tuple #[.slice A' (retOut l r).length c', .int .i64 (retCost l r), .bool (retOk l r)]) ∧
      w'.ownsRow w.heap.size 46 3 (.slice A' (retOut l r).length c') (retOut l r).length (layCells (retOut l r)) ∧ Below w.heap.size w w' := by
  have hl := Lib.hid hr.lay
  cases h : areLayers l
  · have e1 : retOut l r = [] := by simp [retOut, retOk, h]
    have e2 : retCost l r = 0 := by simp [retCost, retOk, h]
    have e3 : retOk l r = false := by simp [retOk, h]
    rw [e1, e2, e3]; clear e1 e2 e3
    go_enter Try.func41, Try.ntmps41
    go_wp2_with (go_at_call 29; refine (implAreLayers _ _ _ l _ hr (by omega)).mono ?_; rw [h]; rintro e w1 ⟨rfl, hb1⟩)
    go_ret3
    exact ⟨_, _, rfl, World.ownsRow_nil _ _ _ _, hb1⟩
  · cases h2 : inB r 1 (usedSum l)
    · have e1 : retOut l r = [] := by simp [retOut, retOk, h2]
      have e2 : retCost l r = 0 := by simp [retCost, retOk, h2]
      have e3 : retOk l r = false := by simp [retOk, h2]
      rw [e1, e2, e3]; clear e1 e2 e3
      go_enter Try.func41, Try.ntmps41
      go_wp2_with (go_at_call 29; refine (implAreLayers _ _ _ l _ hr (by omega)).mono ?_; rw [h]; rintro e w1 ⟨rfl, hb1⟩)
      refine (usedOf_any _ _ _ l _ (hr.below hb1) h).mono ?_; rintro e w2 ⟨rfl, hb2⟩
      go_wp2_with fail
      refine (impl_in _ _ _ _).mono ?_; rw [h2]; rintro e w' ⟨rfl, rfl⟩
      go_wp2_with fail
      go_ret3
      exact ⟨_, _, rfl, World.ownsRow_nil _ _ _ _, below_then hb1 hb2⟩
    · have n24 : n ≤ 24 := by rw [← hl.out]; exact areLayers_len h
      have hr0 := inB_true.1 h2
      have lb : usedSum l ≤ 24 * 100000 := (sumTo_bd24 (used_bd h) (by omega) (areLayers_len h) _ (Nat.le_refl _)).2
      have lr : r ≤ 2400000 := by omega
      have e1 : retOut l r = retRow l r 0 := by rw [retOut, if_pos (by simp [retOk, h, h2]), ← retRow_zero]
      have e2 : retCost l r = (retTo l r 0).cost := by rw [retCost, if_pos (by simp [retOk, h, h2])]
      have e3 : retOk l r = true := by simp [retOk, h, h2]
      have e4 : (retRow l r 0).length = n := by rw [retRow_len _ _ _ (Nat.zero_le _), hl.out]
      rw [e1, e2, e3, e4]; clear e1 e2 e3 e4
      have BD := Lib.hid (fun k => retTo_bd h (q := r) (by omega) k)
      have AT := Lib.hid (fun k x (hx : l[k]? = some x) => areLayers_at h hx)
      go_enter Try.func41, Try.ntmps41
      go_wp2_with (go_at_call 29; refine (implAreLayers _ _ _ l _ hr (by omega)).mono ?_; rw [h]; rintro e w1 ⟨rfl, hb1⟩)
      refine (usedOf_any _ _ _ l _ (hr.below hb1) h).mono ?_; rintro e w2 ⟨rfl, hb2⟩
      go_wp2_with fail
      refine (impl_in _ _ _ _).mono ?_; rw [h2]; rintro e w' ⟨rfl, rfl⟩
      go_wp2_with fail
      refine (copyLayers_any _ _ _ l _ (hr.below (below_then hb1 hb2)) (by omega)).mono ?_; rintro e w3 ⟨A3, c3, rfl, ho3, hb3⟩
      have b3 := below_then (below_then hb1 hb2) hb3
      have ho3' := own_base ho3 (below_then hb1 hb2).size
      clear h h2 ho3 hb1 hb2 hb3 lb
      go_wp2_with fail
      go_loopw [1, 8, 9] (fun rr cc i wr => ∃ k : Nat, k ≤ n ∧ i = .int .i64 ((k : Int) - 1) ∧ rr = .int .i64 (retTo l r k).left ∧ cc = .int .i64 (retTo l r k).cost ∧ Below w.heap.size w wr ∧ wr.ownsRow w.heap.size 46 3 (.slice A3 n c3) n (layCells (retRow l r k))) (fun _ _ i _ => (intOf i + 1).toNat)
      case atStart => exact ⟨n, Nat.le_refl _, rfl, by rw [← hl.out, retTo_end], by rw [← hl.out, retTo_end], b3, by rw [← hl.out, retRow_end, hl.out]; exact ho3'⟩
      case round =>
        obtain ⟨k, hk, rfl, rfl, rfl, hb, ho⟩ := hrel
        clear b3 ho3'
        rcases Nat.eq_zero_or_pos k with h0 | h0
        · subst h0
          rw [show ((0 : Nat) : Int) - 1 = -1 from rfl]
          go_wp2
          go_ret3
          exact ⟨_, _, rfl, ho, hb⟩
        · obtain ⟨j, rfl⟩ : ∃ j, k = j + 1 := ⟨k - 1, by omega⟩
          rw [show ((j + 1 : Nat) : Int) - 1 = (j : Int) by omega]
          obtain ⟨g, rfl, hgb, hgs, -, hf⟩ := own_addr ho (by omega)
          obtain ⟨g', off, hA, q, v, u, hx, hq, hv, hu⟩ := (RS.of_own ho).layAt (k := j) (by omega)
          obtain ⟨rfl, rfl⟩ : g = g' ∧ 0 = off := by simpa using hA
          have hxl : l[j]? = some ⟨q, v, u⟩ := by
            obtain ⟨y, hy⟩ : ∃ y, l[j]? = some y := ⟨_, List.getElem?_eq_getElem (by rw [hl.out]; omega)⟩
            rw [retRow_at hy] at hx; rw [hy, hx]
          have ha := AT.out j _ hxl
          have bd := BD.out (j + 1)
          have bl : ((l.drop (j + 1)).length : Int) ≤ 24 := by rw [List.length_drop, hl.out]; omega
          have bd4 : (retTo l r (j + 1)).cost ≤ 24000000000 := by omega
          have HX := Lib.hid hxl
          clear hx hxl hA bl
          simp only [Nat.zero_add] at hq hv hu
          simp only at ha
          have i1 : (0 : Int) ≤ j := by omega
          have i2 : (j : Int) < n := by omega
          obtain ⟨m, hm, hm1, hm2, hm3, hm4⟩ := min_is (retTo l r (j + 1)).left u (by omega) (by omega)
          have MM := Lib.hid hm4; clear hm4
          have l1 := lcost_bd (x := ⟨q, v, u⟩) (n := u) (by simp; omega) (by simp; omega) (by omega) (by simp; omega)
          have l2 := lcost_bd (x := ⟨q, v, u⟩) (n := u - m) (by simp; omega) (by simp; omega) (by omega) (by simp; omega)
          have l3 := lcost_mono (x := ⟨q, v, u⟩) (a := u - m) (b := u) (by simp; omega) (by simp; omega) (by omega)
          simp only at l1 l2
          have s2 : IntKind.i64.wrap (u - m) = u - m := IntWalk.i64_in _ (by omega)
          have s3 : IntKind.i64.wrap (lcost ⟨q, v, u⟩ u - lcost ⟨q, v, u⟩ (u - m)) = lcost ⟨q, v, u⟩ u - lcost ⟨q, v, u⟩ (u - m) := IntWalk.i64_in _ (by omega)
          have s4 : IntKind.i64.wrap ((retTo l r (j + 1)).cost + (lcost ⟨q, v, u⟩ u - lcost ⟨q, v, u⟩ (u - m))) = (retTo l r (j + 1)).cost + (lcost ⟨q, v, u⟩ u - lcost ⟨q, v, u⟩ (u - m)) := IntWalk.i64_in _ (by omega)
          have s5 : IntKind.i64.wrap ((retTo l r (j + 1)).cost + lcost ⟨q, v, u⟩ u) = (retTo l r (j + 1)).cost + lcost ⟨q, v, u⟩ u := IntWalk.i64_in _ (by omega)
          have s6 : IntKind.i64.wrap ((retTo l r (j + 1)).cost + lcost ⟨q, v, u⟩ u - lcost ⟨q, v, u⟩ (u - m)) = (retTo l r (j + 1)).cost + lcost ⟨q, v, u⟩ u - lcost ⟨q, v, u⟩ (u - m) := IntWalk.i64_in _ (by omega)
          have d0 := cell_wext hq; have d1 := cell_wext hv; have d2 := cell_wext hu
          have f3 := frozen_wext (w := wr) (p := ⟨g, j * 3 + 2, none⟩) hgs (hf _)
          clear hf
          go_wp2
          refine wp_region_ext (by kernel_rfl) (by kernel_rfl) ?_
          repeat (go_big_quiet_step ((go_at_call 54; exact ext_call (implCost _ _ _ _ _ (by omega) (by omega) (by omega)))))
          refine wpQuiet_nil ?_
          intro _ hw'; obtain ⟨nq, hw''⟩ := hw'; subst hw''
          go_wp2
          go_roundw
          case rel =>
            refine ⟨j, by omega, by go_num, ?_, ?_, (below_app hb (below_wext wr nq) hb.size).setCell hgb _, ?_⟩
            · rw [retTo_at HX.out]
              show _ = Value.int .i64 ((retTo l r (j + 1)).left - min (retTo l r (j + 1)).left u)
              rw [← MM.out]
            · rw [retTo_at HX.out]
              show _ = Value.int .i64 ((retTo l r (j + 1)).cost + (lcost ⟨q, v, u⟩ u - lcost ⟨q, v, u⟩ (u - min (retTo l r (j + 1)).left u)))
              rw [← MM.out]
            · have o := ((own_below ho (below_wext wr nq)).stored (j * 3 + 2) (.int .i64 (u - m))).1
              rw [layCells_setU _ _ _ _ _ _ (retRow_at HX.out), MM.out, retRow_step HX.out] at o
              rw [MM.out]
              exact o
          case measure => simp [intOf]
set_option maxHeartbeats 2000000 in
theorem specReturn (A : Option Addr) (n c : Nat) (l : List Lay) (r : Int) (w : World) (hr : RS w 3 A n (layCells l)) (hn : n ≤ 100000000) :
    Calls Try.prog 40 #[.slice A n c, .int .i64 r] w fun e w' => ∃ A' c', e = .returned (.tuple #[.slice A' (retOut l r).length c', .int .i64 (retCost l r), .bool (retOk l r)]) ∧
      w'.ownsRow w.heap.size 46 3 (.slice A' (retOut l r).length c') (retOut l r).length (layCells (retOut l r)) ∧ Below w.heap.size w w' := by
  have hl := Lib.hid hr.lay
  obtain ⟨i0, hi, hz0, hz1, hz2⟩ := info_parts layInfo
  cases h : areLayers l
  · have e1 : retOut l r = [] := by simp [retOut, retOk, h]
    have e2 : retCost l r = 0 := by simp [retCost, retOk, h]
    have e3 : retOk l r = false := by simp [retOk, h]
    rw [e1, e2, e3]; clear e1 e2 e3
    go_enter Try.func40, Try.ntmps40
    go_wp2
    go_loopw [7, 8] (fun t i wr => ∃ k : Nat, k ≤ n ∧ i = .int .i64 k ∧ (∃ s : Int, t = .int .i64 s) ∧ Below w.heap.size w wr) (fun _ i _ => n - (intOf i).toNat)
    case atStart => exact ⟨0, Nat.zero_le _, rfl, ⟨_, rfl⟩, Below.refl _ _⟩
    case round =>
      obtain ⟨k, hk, rfl, ⟨s, rfl⟩, hb⟩ := hrel
      by_cases hlt : k < n
      · obtain ⟨g, off, rfl, q, v, u, hx, hq, hv, hu⟩ := (hr.below hb).layAt hlt
        clear hx
        go_wp2
        go_roundw
        case rel => exact ⟨k + 1, by omega, by go_num, ⟨_, rfl⟩, hb⟩
        case measure => simp [intOf]; omega
      · go_wp2_with (go_at_call 27; refine (specAreLayers _ _ _ l _ (hr.below hb) (by omega)).mono ?_; rw [h]; rintro e w1 ⟨rfl, hb1⟩)
        go_ret3
        have b1 := below_app hb hb1 hb.size
        exact ⟨_, _, rfl, own_empty _ _ _ _ b1.size, b1.alloc b1.size _⟩
  · cases h2 : inB r 1 (usedSum l)
    · have e1 : retOut l r = [] := by simp [retOut, retOk, h2]
      have e2 : retCost l r = 0 := by simp [retCost, retOk, h2]
      have e3 : retOk l r = false := by simp [retOk, h2]
      rw [e1, e2, e3]; clear e1 e2 e3
      have SU := Lib.hid (fun k hk => sumTo_bd24 (f := Lay.u) (used_bd h) (by omega) (areLayers_len h) k hk)
      have AU := Lib.hid (fun k x (hx : l[k]? = some x) => areLayers_at h hx)
      have n24' : n ≤ 24 := by rw [← hl.out]; exact areLayers_len h
      have H1 := Lib.hid h
      have H2 := Lib.hid h2
      clear h h2
      go_enter Try.func40, Try.ntmps40
      go_wp2
      go_loopw [7, 8] (fun t i wr => ∃ k : Nat, k ≤ n ∧ i = .int .i64 k ∧ t = .int .i64 (sumTo Lay.u l k) ∧ Below w.heap.size w wr) (fun _ i _ => n - (intOf i).toNat)
      case atStart => exact ⟨0, Nat.zero_le _, rfl, by rw [sumTo_zero], Below.refl _ _⟩
      case round =>
        obtain ⟨k, hk, rfl, rfl, hb⟩ := hrel
        by_cases hlt : k < n
        · obtain ⟨g, off, rfl, q, v, u, hx, hq, hv, hu⟩ := (hr.below hb).layAt hlt
          have HS := Lib.hid (sumTo_succ Lay.u hx)
          have ha := AU.out k _ hx
          have sb := SU.out k (by rw [hl.out]; omega)
          clear hx
          simp only at ha
          go_wp2
          go_roundw
          case rel => exact ⟨k + 1, by omega, by go_num, by rw [HS.out], hb⟩
          case measure => simp [intOf]; omega
        · obtain rfl : n = k := by omega
          have e7 : sumTo Lay.u l n = usedSum l := by show _ = sumTo Lay.u l l.length; rw [hl.out]
          rw [e7]; clear e7
          go_wp2_with fail
          refine (specAreLayers _ _ _ l _ (hr.below hb) (by omega)).mono ?_; rw [H1.out]; rintro e w1 ⟨rfl, hb1⟩
          go_wp2_with fail
          refine (spec_in _ _ _ _).mono ?_; rw [H2.out]; rintro e w' ⟨rfl, rfl⟩
          have b1 := below_app hb hb1 hb.size
          go_wp2_with fail
          go_ret3
          exact ⟨_, _, rfl, own_empty _ _ _ _ b1.size, b1.alloc b1.size _⟩
    · have n24 : n ≤ 24 := by rw [← hl.out]; exact areLayers_len h
      have hr0 := inB_true.1 h2
      have lb : usedSum l ≤ 24 * 100000 := (sumTo_bd24 (used_bd h) (by omega) (areLayers_len h) _ (Nat.le_refl _)).2
      have lr : r ≤ 2400000 := by omega
      have e1 : retOut l r = retRow l r 0 := by rw [retOut, if_pos (by simp [retOk, h, h2]), ← retRow_zero]
      have e2 : retCost l r = (retTo l r 0).cost := by rw [retCost, if_pos (by simp [retOk, h, h2])]
      have e3 : retOk l r = true := by simp [retOk, h, h2]
      have e4 : (retRow l r 0).length = n := by rw [retRow_len _ _ _ (Nat.zero_le _), hl.out]
      rw [e1, e2, e3, e4]; clear e1 e2 e3 e4
      have BD := Lib.hid (fun k => retTo_bd h (q := r) (by omega) k)
      have AT := Lib.hid (fun k x (hx : l[k]? = some x) => areLayers_at h hx)
      have SU := Lib.hid (fun k hk => sumTo_bd24 (f := Lay.u) (used_bd h) (by omega) (areLayers_len h) k hk)
      have AU := Lib.hid (fun k x (hx : l[k]? = some x) => areLayers_at h hx)
      have n24' : n ≤ 24 := by rw [← hl.out]; exact areLayers_len h
      have H1 := Lib.hid h
      have H2 := Lib.hid h2
      clear h h2
      go_enter Try.func40, Try.ntmps40
      go_wp2
      go_loopw [7, 8] (fun t i wr => ∃ k : Nat, k ≤ n ∧ i = .int .i64 k ∧ t = .int .i64 (sumTo Lay.u l k) ∧ Below w.heap.size w wr) (fun _ i _ => n - (intOf i).toNat)
      case atStart => exact ⟨0, Nat.zero_le _, rfl, by rw [sumTo_zero], Below.refl _ _⟩
      case round =>
        obtain ⟨k, hk, rfl, rfl, hb⟩ := hrel
        by_cases hlt : k < n
        · obtain ⟨g, off, rfl, q, v, u, hx, hq, hv, hu⟩ := (hr.below hb).layAt hlt
          have HS := Lib.hid (sumTo_succ Lay.u hx)
          have ha := AU.out k _ hx
          have sb := SU.out k (by rw [hl.out]; omega)
          clear hx
          simp only at ha
          go_wp2
          go_roundw
          case rel => exact ⟨k + 1, by omega, by go_num, by rw [HS.out], hb⟩
          case measure => simp [intOf]; omega
        · obtain rfl : n = k := by omega
          have e7 : sumTo Lay.u l n = usedSum l := by show _ = sumTo Lay.u l l.length; rw [hl.out]
          rw [e7]; clear e7
          go_wp2_with fail
          refine (specAreLayers _ _ _ l _ (hr.below hb) (by omega)).mono ?_; rw [H1.out]; rintro e w1 ⟨rfl, hb1⟩
          go_wp2_with fail
          refine (spec_in _ _ _ _).mono ?_; rw [H2.out]; rintro e w' ⟨rfl, rfl⟩
          have b1 := below_app hb hb1 hb.size
          go_wp2_with (at_builtin; refine wpList_app _ rfl _ _ _ rfl w.heap.size 46 i0 _ 3 24 Try.underlying24 hi hz0 hz1 hz2 rfl (by omega) _ 0 [] rfl (own_empty _ w.heap.size 46 3 b1.size) A n c (layCells l) rfl ((hr.below b1).alloc _) (layCells_one l) (by unfold maxLen; omega) (by omega) (by have := b1.size; simp; omega) ?_; intro A3 c3 w3 ho3 _ _ hb3; simp only [Nat.zero_add, List.nil_append] at ho3)
          have b3 : Below w.heap.size w w3 := (b1.alloc b1.size _).trans hb3
          have ho3' := ho3
          clear ho3 hb1 hb3 b1 hb SU AU hlt hk
          go_loopw [10, 11, 12] (fun rr cc i wr => ∃ k : Nat, k ≤ n ∧ i = .int .i64 ((k : Int) - 1) ∧ rr = .int .i64 (retTo l r k).left ∧ cc = .int .i64 (retTo l r k).cost ∧ Below w.heap.size w wr ∧ wr.ownsRow w.heap.size 46 3 (.slice A3 n c3) n (layCells (retRow l r k))) (fun _ _ i _ => (intOf i + 1).toNat)
          case atStart => exact ⟨n, Nat.le_refl _, rfl, by rw [← hl.out, retTo_end], by rw [← hl.out, retTo_end], b3, by rw [← hl.out, retRow_end, hl.out]; exact ho3'⟩
          case round =>
            obtain ⟨k, hk, rfl, rfl, rfl, hb, ho⟩ := hrel
            clear b3 ho3'
            rcases Nat.eq_zero_or_pos k with h0 | h0
            · subst h0
              rw [show ((0 : Nat) : Int) - 1 = -1 from rfl]
              go_wp2
              go_ret3
              exact ⟨_, _, rfl, ho, hb⟩
            · obtain ⟨j, rfl⟩ : ∃ j, k = j + 1 := ⟨k - 1, by omega⟩
              rw [show ((j + 1 : Nat) : Int) - 1 = (j : Int) by omega]
              obtain ⟨g, rfl, hgb, hgs, -, hf⟩ := own_addr ho (by omega)
              obtain ⟨g', off, hA, q, v, u, hx, hq, hv, hu⟩ := (RS.of_own ho).layAt (k := j) (by omega)
              obtain ⟨rfl, rfl⟩ : g = g' ∧ 0 = off := by simpa using hA
              have hxl : l[j]? = some ⟨q, v, u⟩ := by
                obtain ⟨y, hy⟩ : ∃ y, l[j]? = some y := ⟨_, List.getElem?_eq_getElem (by rw [hl.out]; omega)⟩
                rw [retRow_at hy] at hx; rw [hy, hx]
              have ha := AT.out j _ hxl
              have bd := BD.out (j + 1)
              have bl : ((l.drop (j + 1)).length : Int) ≤ 24 := by rw [List.length_drop, hl.out]; omega
              have bd4 : (retTo l r (j + 1)).cost ≤ 24000000000 := by omega
              have HX := Lib.hid hxl
              clear hx hxl hA bl
              simp only [Nat.zero_add] at hq hv hu
              simp only at ha
              have i1 : (0 : Int) ≤ j := by omega
              have i2 : (j : Int) < n := by omega
              obtain ⟨m, hm, hm1, hm2, hm3, hm4⟩ := min_is (retTo l r (j + 1)).left u (by omega) (by omega)
              have MM := Lib.hid hm4; clear hm4
              by_cases hz : (retTo l r (j + 1)).left ≤ 0
              · have hz0 : (retTo l r (j + 1)).left = 0 := by omega
                obtain ⟨d1, d2⟩ := retTo_done H1.out hz0
                have E1 : retRow l r 0 = retRow l r (j + 1) := by rw [retRow_zero, d1]; rfl
                have E := Lib.hid (And.intro E1 d2)
                clear E1 d1 d2 hz0 hm hf
                have hzd : decide (0 < (retTo l r (j + 1)).left) = false := by simp; omega
                go_wp2
                go_ret3
                exact ⟨_, _, by rw [E.out.2]; rfl, by rw [E.out.1]; exact ho, hb⟩
              have l1 := lcost_bd (x := ⟨q, v, u⟩) (n := u) (by simp; omega) (by simp; omega) (by omega) (by simp; omega)
              have l2 := lcost_bd (x := ⟨q, v, u⟩) (n := u - m) (by simp; omega) (by simp; omega) (by omega) (by simp; omega)
              have l3 := lcost_mono (x := ⟨q, v, u⟩) (a := u - m) (b := u) (by simp; omega) (by simp; omega) (by omega)
              simp only at l1 l2
              have s2 : IntKind.i64.wrap (u - m) = u - m := IntWalk.i64_in _ (by omega)
              have s3 : IntKind.i64.wrap (lcost ⟨q, v, u⟩ u - lcost ⟨q, v, u⟩ (u - m)) = lcost ⟨q, v, u⟩ u - lcost ⟨q, v, u⟩ (u - m) := IntWalk.i64_in _ (by omega)
              have s4 : IntKind.i64.wrap ((retTo l r (j + 1)).cost + (lcost ⟨q, v, u⟩ u - lcost ⟨q, v, u⟩ (u - m))) = (retTo l r (j + 1)).cost + (lcost ⟨q, v, u⟩ u - lcost ⟨q, v, u⟩ (u - m)) := IntWalk.i64_in _ (by omega)
              have s5 : IntKind.i64.wrap ((retTo l r (j + 1)).cost + lcost ⟨q, v, u⟩ u) = (retTo l r (j + 1)).cost + lcost ⟨q, v, u⟩ u := IntWalk.i64_in _ (by omega)
              have s6 : IntKind.i64.wrap ((retTo l r (j + 1)).cost + lcost ⟨q, v, u⟩ u - lcost ⟨q, v, u⟩ (u - m)) = (retTo l r (j + 1)).cost + lcost ⟨q, v, u⟩ u - lcost ⟨q, v, u⟩ (u - m) := IntWalk.i64_in _ (by omega)
              have d0 := cell_wext hq; have d1 := cell_wext hv; have d2 := cell_wext hu
              have f3 := frozen_wext (w := wr) (p := ⟨g, j * 3 + 2, none⟩) hgs (hf _)
              clear hf
              go_wp2
              refine wp_region_ext (by kernel_rfl) (by kernel_rfl) ?_
              repeat (go_big_quiet_step ((go_at_call 56; exact ext_call (specCost _ _ _ _ _ (by omega) (by omega) (by omega)))))
              refine wpQuiet_nil ?_
              intro _ hw'; obtain ⟨nq, hw''⟩ := hw'; subst hw''
              go_wp2
              go_roundw
              case rel =>
                refine ⟨j, by omega, by go_num, ?_, ?_, (below_app hb (below_wext wr nq) hb.size).setCell hgb _, ?_⟩
                · rw [retTo_at HX.out]
                  show _ = Value.int .i64 ((retTo l r (j + 1)).left - min (retTo l r (j + 1)).left u)
                  rw [← MM.out]
                · rw [retTo_at HX.out]
                  show _ = Value.int .i64 ((retTo l r (j + 1)).cost + (lcost ⟨q, v, u⟩ u - lcost ⟨q, v, u⟩ (u - min (retTo l r (j + 1)).left u)))
                  rw [← MM.out, Int.add_sub_assoc]
                · have o := ((own_below ho (below_wext wr nq)).stored (j * 3 + 2) (.int .i64 (u - m))).1
                  rw [layCells_setU _ _ _ _ _ _ (retRow_at HX.out), MM.out, retRow_step HX.out] at o
                  rw [MM.out]
                  exact o
              case measure => simp [intOf]
end Go.Proofs.Ytknfhiepndffpaa
