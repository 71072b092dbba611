/- The walks of post and l36Post. No condition. -/
import Derived.Test.YtlgodbjbllpipaaBkQ
import Derived.Test.YtlgodbjbllpipaaBkP
namespace Go.Proofs.Ytlgodbjbllpipaa
open Go.ChangeShapes Go.WideShapes Go.ChangeAt Go.RowKit

theorem grown_after {w w1 : World} (hb : Below w.heap.size w w1) (q j : Nat) (u : Value) : w.grownBy (w1.setCell ⟨q, j, none⟩ u) (some q) :=
  ⟨hb.os, hb.tape, hb.output, by simp only [World.setCell, Array.size_modify]; exact hb.size, fun k hk hne => by
    rw [Below.heap_setCell _ _ _ _ (fun e => hne (by rw [e]))]; exact hb.block k hk⟩
theorem grown_none {w w1 : World} (hb : Below w.heap.size w w1) (q : Nat) : w.grownBy w1 (some q) := ⟨hb.os, hb.tape, hb.output, hb.size, fun k hk _ => hb.block k hk⟩
theorem Keeps.grownq {q : Nat} {w w' : World} {cs : Array Value} (hg : w.grownBy w' (some q)) (hq : w.heap[q]? = some (.cells cs 31 (0, 0))) : Keeps (some q) w w' := by
  intro k cs' t' ht hk
  by_cases hkp : k = q
  · subst hkp
    rw [hq] at hk
    injection hk with hk
    injection hk with _ he2 _
    rcases ht with ht | ht
    · rw [ht] at he2; exact absurd he2 (by decide)
    · exact absurd rfl ht.2
  · rw [hg.block k (Array.getElem?_eq_some_iff.1 hk).1 (fun e => hkp (by injection e))]; exact hk
theorem bkPostOk_nil {ds : List Doc} {day : Int} {es : List En} (h : (nz es).length = 0) : bkPostOk ds day es = true ∧ bkPostDs ds day es = ds := by
  have : (nz es).isEmpty = true := by simpa using h
  simp [bkPostOk, bkPostDs, this]
theorem bkPostOk_some {ds : List Doc} {day : Int} {es : List En} (h : ¬ (nz es).length = 0) : bkPostOk ds day es = areDocs (withDoc ds day (nz es)) ∧ bkPostDs ds day es = withDoc ds day (nz es) := by
  have : (nz es).isEmpty = false := by
    cases hh : (nz es).isEmpty
    · rfl
    · exact absurd (by simpa using hh) h
  simp [bkPostOk, bkPostDs, this]
def okCode (b : Bool) : Int := if b then 0 else 3
theorem okCode_yes : okCode true = 0 := rfl
theorem okCode_no : okCode false = 3 := rfl
theorem BooksO.out3 {w : World} {lo hi r n m : Nat} {v v' : Value} {ss : List Shf} {ds : List Doc} {cs : Array Value} (h : BooksO w lo hi v n ss v' m ds) (hr : w.heap[r]? = some (.cells cs 31 (0, 0))) (u0 u1 u2 : Value) :
    BooksO (((w.setCell ⟨r, 0, none⟩ u0).setCell ⟨r, 1, none⟩ u1).setCell ⟨r, 2, none⟩ u2) lo hi v n ss v' m ds :=
  have h1 := heap_setCell_same w r 0 _ _ u0 hr
  have h2 := heap_setCell_same _ r 1 _ _ u1 h1
  ((h.setq hr rfl).setq h1 rfl).setq h2 rfl
theorem below_out3 {B r : Nat} {a w : World} (h : Below B a w) (hr : B ≤ r) (u0 u1 u2 : Value) : Below B a (((w.setCell ⟨r, 0, none⟩ u0).setCell ⟨r, 1, none⟩ u1).setCell ⟨r, 2, none⟩ u2) :=
  ((h.setCell (p := ⟨r, 0, none⟩) hr u0).setCell (p := ⟨r, 1, none⟩) hr u1).setCell (p := ⟨r, 2, none⟩) hr u2
theorem nz_small {es : List En} (h : ∀ x ∈ es, x.acc.size ≤ 9223372036854775807) : ∀ x ∈ nz es, x.acc.size ≤ 9223372036854775807 := fun x hx => h x ((List.mem_filter.1 hx).1)

set_option maxRecDepth 100000 in
set_option maxHeartbeats 4000000 in
theorem implPostBk (lo q : Nat) (ss : List Shf) (k : Int) (ds : List Doc) (day : Int) (B : Option Addr) (m d : Nat) (es : List En) (w : World) (h : BkO w lo q ss k ds) (hlo : lo ≤ w.heap.size) (hok : docsSmall ds) (hdn : ds.length ≤ 1048576)
    (hs : RS w 2 B m (es.flatMap enCell)) (hm : m ≤ 8) (hes : ∀ x ∈ es, x.acc.size ≤ 9223372036854775807) :
    Calls Try.prog 86 #[.pointer (some ⟨q, 0, none⟩), .int .i64 day, .slice B m d] w fun e w' => e = .returned (.bool (bkPostOk ds day es)) ∧ (bkPostOk ds day es = true → BkO w' lo q ss k (bkPostDs ds day es)) ∧ w.grownBy w' (some q) := by
  obtain ⟨sA, sn, sc, dA, dn, dc, hq, hlq, hbk⟩ := h
  obtain ⟨i0, hi, hz0, hz1, hz2⟩ := info_parts enInfo
  have hl := Lib.hid (hs.flatLen enCell_len (by omega))
  have hdl := hbk.docs.len
  have dn1 : dn ≤ 1048576 := by omega
  have OK := Lib.hid hok; have HS := Lib.hid (nz_small hes)
  have Q := Lib.hid hq
  have HB := Lib.hid hbk
  have qs : q < w.heap.size := (Array.getElem?_eq_some_iff.1 hq).1
  clear hok hdn hes hq hbk hdl
  have E0 := own_empty w w.heap.size 66 2 (Nat.le_refl _)
  go_enter Try.func86, Try.ntmps86
  go_wp2_with fail
  go_loopw [7, 15] (fun v i wr => ∃ j : Nat, j ≤ m ∧ i = .int .i64 j ∧ Below w.heap.size w wr ∧ ∃ A' c', v = .slice A' (nz (es.take j)).length c' ∧ wr.ownsRow w.heap.size 66 2 (.slice A' (nz (es.take j)).length c') (nz (es.take j)).length ((nz (es.take j)).flatMap enCell)) (fun _ i _ => m - (intOf i).toNat)
  case atStart => exact ⟨0, Nat.zero_le _, rfl, below_box w _, _, _, rfl, E0⟩
  case round =>
    obtain ⟨j, hj, rfl, hb, A', c', rfl, ho⟩ := hrel
    clear E0
    by_cases hlt : j < m
    · obtain ⟨g, off, rfl, ⟨acc, amt⟩, hx, h0, h1⟩ := (hs.below hb).enAt hlt
      have DL := nz_len (es.take j)
      have DL2 : (es.take j).length ≤ j := by simp; omega
      have HX := Lib.hid hx; clear hx
      simp only at h0 h1
      by_cases hz : amt = 0
      · have HZ := Lib.hid (nz_no HX.out hz)
        subst hz
        go_wp2_with fail
        go_roundw
        case rel =>
          refine ⟨j + 1, by omega, by go_num, hb.alloc hb.size _, A', c', ?_, ?_⟩
          · rw [HZ.out]
          · rw [HZ.out]; exact ho.alloc _
        case measure => simp [intOf]; omega
      · have HZ := Lib.hid (nz_yes HX.out hz)
        go_wp2_with (at_builtin; refine wpList_app _ rfl _ _ _ rfl w.heap.size 66 i0 _ 2 24 Try.underlying62 hi hz0 hz1 hz2 rfl (by omega) _ _ ((nz (es.take j)).flatMap enCell) rfl ((ho.alloc _).alloc _) _ 1 1 [.string acc, .int .i64 amt] rfl (RS_new2 (by simp)) (by simp [Value.oneCell']) (by unfold maxLen; omega) (by omega) (by have := hb.size; simp; omega) ?_; intro A2 c2 w2 ho2 _ _ hb2)
        go_roundw
        case rel =>
          refine ⟨j + 1, by omega, by go_num, ((hb.alloc hb.size _).alloc (by have := hb.size; simp; omega) _).trans hb2, A2, c2, ?_, ?_⟩
          · rw [HZ.out, List.length_append]; rfl
          · have e2 : (nz (es.take j)).length + 1 = (nz (es.take (j + 1))).length := by rw [HZ.out, List.length_append]; rfl
            have e3 : (nz (es.take (j + 1))).flatMap enCell = (nz (es.take j)).flatMap enCell ++ [.string acc, .int .i64 amt] := by rw [HZ.out, flat_append]; rfl
            rw [← e2, e3]; exact ho2
        case measure => simp [intOf]; omega
    · obtain rfl : m = j := by omega
      have TK : es.take m = es := by rw [List.take_of_length_le (by rw [hl.out]; exact Nat.le_refl _)]
      rw [TK] at ho ⊢
      clear TK
      obtain ⟨p, hp⟩ : ∃ p, p = (nz es).length := ⟨_, rfl⟩
      have pl : p ≤ m := by rw [hp, ← hl.out]; exact nz_len es
      by_cases hp0 : p = 0
      · have R := Lib.hid (bkPostOk_nil (ds := ds) (day := day) (hp ▸ hp0))
        rw [← hp] at ho ⊢
        clear hp pl
        subst hp0
        go_wp2_with fail
        go_ret
        rw [R.out.1, R.out.2]
        exact ⟨rfl, fun _ => ⟨sA, sn, sc, dA, dn, dc, blk_keep hb Q.out, hlq, (HB.out.below hb).top⟩, grown_none hb q⟩
      · have R := Lib.hid (bkPostOk_some (ds := ds) (day := day) (es := es) (hp ▸ hp0))
        rw [← hp] at ho ⊢
        have HP := Lib.hid hp
        clear hp
        have q2 := blk_at (blk_keep hb Q.out) (j := 2) rfl
        have pi : ¬ (p : Int) = 0 := by omega
        have re : RS wr 2 A' p ((nz es).flatMap enCell) := RS.of_own ho
        have dr := (HB.out.below hb).docs
        go_wp2_with fail
        refine (implPost _ _ _ ds day _ _ _ (nz es) _ dr dn1 re (by omega) OK.out HS.out).mono ?_
        cases ha : areDocs (withDoc ds day (nz es))
        · rintro e w1 ⟨D, dd, rfl, OD, hb1⟩
          have HA := Lib.hid ha; clear ha OD
          go_wp2_with fail
          go_ret
          rw [R.out.1, HA.out]
          exact ⟨rfl, (fun h => by cases h), grown_none (below_app hb hb1 hb.size) q⟩
        · rw [postDocs_yes ha]
          rintro e w1 ⟨D, dd, rfl, OD, hb1⟩
          have HA := Lib.hid ha; clear ha
          have B1 := Lib.hid (below_app hb hb1 hb.size)
          have Q1 := Lib.hid (blk_keep B1.out Q.out)
          have f1 := blk_free Q1.out
          have q21 := blk_at Q1.out (j := 2) rfl
          have BK := Lib.hid ((show BooksO w1 lo w1.heap.size _ _ _ _ _ _ from let ⟨us, k1, k2⟩ := HB.out; BooksO.of (k2.drop.below hb) hb1 OD (Nat.le_refl _) (Nat.le_trans hlo hb.size)).setq (j := 2) (u := .slice D (withDoc ds day (nz es)).length dd) Q1.out rfl)
          have QN := Lib.hid (heap_setCell_same w1 q 2 _ _ (.slice D (withDoc ds day (nz es)).length dd) Q1.out)
          clear OD hb1 q2
          generalize (withDoc ds day (nz es)).length = dl at *
          go_wp2_with fail
          go_ret
          rw [R.out.1, HA.out, R.out.2]
          exact ⟨rfl, fun _ => ⟨sA, sn, sc, D, _, dd, QN.out, hlq, BK.out.top⟩, grown_after B1.out q 2 _⟩
theorem RS.accAt {w : World} {A : Option Addr} {n k : Nat} {es : List En} {x : En} (h : RS w 1 A n (es.map fun x => .string x.acc)) (hk : k < n) (hx : es[k]? = some x) : ∃ g off, A = some ⟨g, off, none⟩ ∧ w.cell? ⟨g, off + k, none⟩ = some (.string x.acc) := by
  obtain ⟨g, off, e, hc⟩ := h.cell (i := 0) hk (u := .string x.acc) (by simp [hx])
  exact ⟨g, off, e, by simpa using hc⟩
theorem RS.amtAt {w : World} {A : Option Addr} {n k : Nat} {es : List En} {x : En} (h : RS w 1 A n (intCells (es.map En.amt))) (hk : k < n) (hx : es[k]? = some x) : ∃ g off, A = some ⟨g, off, none⟩ ∧ w.cell? ⟨g, off + k, none⟩ = some (.int .i64 x.amt) := by
  obtain ⟨g, off, e, hc⟩ := h.cell (i := 0) hk (u := .int .i64 x.amt) (by simp [intCells, hx])
  exact ⟨g, off, e, by simpa using hc⟩
set_option maxRecDepth 100000 in
set_option maxHeartbeats 4000000 in
theorem specPostBk (lo hi2 : Nat) (sA : Option Addr) (sn sc : Nat) (k : Int) (dA : Option Addr) (dn dc : Nat) (ss : List Shf) (ds : List Doc) (day : Int) (nA : Option Addr) (m nc : Nat) (aA : Option Addr) (ac : Nat) (es : List En) (w : World)
    (hbk : BooksO w lo hi2 (.slice sA sn sc) sn ss (.slice dA dn dc) dn ds) (hlo : lo ≤ w.heap.size) (hok : docsSmall ds) (hdn : ds.length ≤ 1048576)
    (h1 : RS w 1 nA m (es.map fun x => .string x.acc)) (h2 : RS w 1 aA m (intCells (es.map En.amt))) (hm : m ≤ 8) (hes : ∀ x ∈ es, x.acc.size ≤ 9223372036854775807) :
    Calls Try.prog 80 #[.agg #[.slice sA sn sc, .int .i64 k, .slice dA dn dc], .int .i64 day, .slice nA m nc, .slice aA m ac] w fun e w' => ∃ D dm dd, e = .returned (.tuple #[.agg #[.slice sA sn sc, .int .i64 k, .slice D dm dd], .int .i64 (okCode (bkPostOk ds day es))]) ∧
      (bkPostOk ds day es = true → BooksO w' lo w'.heap.size (.slice sA sn sc) sn ss (.slice D dm dd) dm (bkPostDs ds day es)) ∧ Below w.heap.size w w' := by
  obtain ⟨i0, hi, hz0, hz1, hz2⟩ := info_parts enInfo
  have hl := Lib.hid (show es.length = m by have := h2.ints; simpa using this)
  have hdl := hbk.docs.len
  have dn1 : dn ≤ 1048576 := by omega
  have OK := Lib.hid hok; have HS := Lib.hid (nz_small hes)
  have HB := Lib.hid hbk
  clear hok hdn hes hbk hdl
  have b0 := Lib.hid (below_then (below_box w (Obj.cells #[.slice sA sn sc, .int .i64 k, .slice dA dn dc] 31)) (below_box _ (Obj.cells #[.slice none 0 0, .int .i64 0, .slice none 0 0] 31)))
  have X := Lib.hid (blk_alloc (blk_new1 w (Obj.cells #[.slice sA sn sc, .int .i64 k, .slice dA dn dc] 31)) (Obj.cells #[.slice none 0 0, .int .i64 0, .slice none 0 0] 31))
  have Z := Lib.hid (blk_new2 w (Obj.cells #[.slice sA sn sc, .int .i64 k, .slice dA dn dc] 31) (Obj.cells #[.slice none 0 0, .int .i64 0, .slice none 0 0] 31))
  have h1 := h1.below b0.out; have h2 := h2.below b0.out
  go_enter Try.func80, Try.ntmps80
  go_wp2_with fail
  have WS : ((w.alloc (Obj.cells #[.slice sA sn sc, .int .i64 k, .slice dA dn dc] 31)).alloc (Obj.cells #[.slice none 0 0, .int .i64 0, .slice none 0 0] 31)).heap.size = w.heap.size + 1 + 1 := by simp
  generalize (w.alloc (Obj.cells #[.slice sA sn sc, .int .i64 k, .slice dA dn dc] 31)).alloc (Obj.cells #[.slice none 0 0, .int .i64 0, .slice none 0 0] 31) = W at *
  have E0 := own_empty W W.heap.size 66 2 (Nat.le_refl _)
  rw [← WS]
  replace WS := Lib.hid WS
  go_loopw [10, 11] (fun v i wr => ∃ j : Nat, j ≤ m ∧ i = .int .i64 j ∧ Below W.heap.size W wr ∧ ∃ A' c', v = .slice A' (nz (es.take j)).length c' ∧ wr.ownsRow W.heap.size 66 2 (.slice A' (nz (es.take j)).length c') (nz (es.take j)).length ((nz (es.take j)).flatMap enCell)) (fun _ i _ => m - (intOf i).toNat)
  case atStart => exact ⟨0, Nat.zero_le _, rfl, below_box W _, _, _, rfl, E0⟩
  case round =>
    obtain ⟨j, hj, rfl, hb, A', c', rfl, ho⟩ := hrel
    clear E0
    by_cases hlt : j < m
    · obtain ⟨⟨acc, amt⟩, hx⟩ : ∃ x, es[j]? = some x := ⟨_, List.getElem?_eq_getElem (by rw [hl.out]; exact hlt)⟩
      obtain ⟨g1, o1, rfl, c1w⟩ := h1.accAt hlt hx
      obtain ⟨g2, o2, rfl, c2w⟩ := h2.amtAt hlt hx
      have c1 := cell_keep hb c1w; have c2 := cell_keep hb c2w
      have C1 := Lib.hid c1w; have C2 := Lib.hid c2w
      clear c1w c2w
      have DL := nz_len (es.take j)
      have DL2 : (es.take j).length ≤ j := by simp; omega
      have HX := Lib.hid hx; clear hx
      simp only at c1 c2
      have i1 : (0 : Int) ≤ j := by omega
      have i2 : (j : Int) < m := by omega
      by_cases hz : amt = 0
      · have HZ := Lib.hid (nz_no HX.out hz)
        subst hz
        go_wp2_with fail
        go_roundw
        case rel =>
          refine ⟨j + 1, by omega, by go_num, hb, A', c', ?_, ?_⟩
          · rw [HZ.out]
          · rw [HZ.out]; exact ho
        case measure => simp [intOf]; omega
      · have HZ := Lib.hid (nz_yes HX.out hz)
        have n1 : ¬ wr.heap.size = g1 := by have := World.block_lt_of_cell? wr _ c1; simp only at this; omega
        have n2 : ¬ wr.heap.size = g2 := by have := World.block_lt_of_cell? wr _ c2; simp only at this; omega
        go_wp2_with fail
        go_region_held3 (fun w' => w'.cell? ⟨g1, o1 + j, none⟩ = some (.string acc) ∧ w'.cell? ⟨g2, o2 + j, none⟩ = some (.int .i64 amt))
          (first
            | go_keep
            | (go_split_ands; exact ⟨cell_alloc c1 _, cell_alloc c2 _⟩)
            | (go_split_ands; exact ⟨cell_keep B2.out C1.out, cell_keep B2.out C2.out⟩))
          (first | (refine step_app _ (by rfl) _ _ _ (by rfl) W.heap.size 66 i0 _ 2 24 Try.underlying62 hi hz0 hz1 hz2 rfl (by omega) _ _ ((nz (es.take j)).flatMap enCell) (by rfl) (by first | exact (ho.alloc _).drew | exact ho.drew.alloc _ | exact ho.alloc _) _ 1 1 [.string acc, .int .i64 amt] (by rfl) (by first | exact (RS_new (by simp)).drew | exact RS_new (by simp)) (by simp [Value.oneCell']) (by unfold maxLen; omega) (by omega) (by have := hb.size; simp; omega) ?_; intro A2 c2' w2 ho2 _ _ hb2; have B2 : Hid (Below W.heap.size W w2) := (by first | exact ((hb.alloc hb.size _).drew).trans hb2 | exact (hb.drew.alloc hb.size _).trans hb2 | exact (hb.alloc hb.size _).trans hb2)))
        go_wp2_with fail
        go_roundw
        case rel =>
          refine ⟨j + 1, by omega, by go_num, B2.out, A2, c2', ?_, ?_⟩
          · rw [HZ.out, List.length_append]; rfl
          · have e2 : (nz (es.take j)).length + 1 = (nz (es.take (j + 1))).length := by rw [HZ.out, List.length_append]; rfl
            have e3 : (nz (es.take (j + 1))).flatMap enCell = (nz (es.take j)).flatMap enCell ++ [.string acc, .int .i64 amt] := by rw [HZ.out, flat_append]; rfl
            rw [← e2, e3]; exact ho2
        case measure => simp [intOf]; omega
    · obtain rfl : m = j := by omega
      have TK : es.take m = es := by rw [List.take_of_length_le (by rw [hl.out]; exact Nat.le_refl _)]
      rw [TK] at ho ⊢
      clear TK
      obtain ⟨p, hp⟩ : ∃ p, p = (nz es).length := ⟨_, rfl⟩
      have pl : p ≤ m := by rw [hp, ← hl.out]; exact nz_len es
      have Xr := Lib.hid (blk_keep hb X.out); have Zr := Lib.hid (blk_keep hb Z.out)
      have bw := Lib.hid (below_app b0.out hb b0.out.size)
      by_cases hp0 : p = 0
      · have R := Lib.hid (bkPostOk_nil (ds := ds) (day := day) (hp ▸ hp0))
        rw [← hp] at ho ⊢
        clear hp pl
        subst hp0
        have x0 := blk_at Xr.out (j := 0) rfl; have x1 := blk_at Xr.out (j := 1) rfl; have x2 := blk_at Xr.out (j := 2) rfl
        have z0 := blk_at Zr.out (j := 0) rfl; have z1 := blk_at Zr.out (j := 1) rfl; have z2 := blk_at Zr.out (j := 2) rfl; have zf := blk_free Zr.out
        go_wp2_with fail
        rw [R.out.1, R.out.2]
        refine bodyPost_ret (v := .tuple #[.agg #[.slice sA sn sc, .int .i64 k, .slice dA dn dc], .int .i64 0]) (by simp [results, Try.results80, go_sem, z0, z1, z2]) rfl ⟨dA, dn, dc, rfl, fun _ => ?_, ?_⟩
        · exact (HB.out.below (below_out3 bw.out (by omega) _ _ _)).top
        · exact below_out3 bw.out (by omega) _ _ _
      · have R := Lib.hid (bkPostOk_some (ds := ds) (day := day) (es := es) (hp ▸ hp0))
        rw [← hp] at ho ⊢
        clear hp
        have x2 := blk_at Xr.out (j := 2) rfl
        have pi : ¬ (p : Int) = 0 := by omega
        have re : RS wr 2 A' p ((nz es).flatMap enCell) := RS.of_own ho
        have dr := (HB.out.below bw.out).docs
        go_wp2_with fail
        refine (specPost _ _ _ ds day _ _ _ (nz es) _ dr dn1 re (by omega) OK.out HS.out).mono ?_
        cases ha : areDocs (withDoc ds day (nz es))
        · rintro e w1 ⟨D, dd, rfl, OD, hb1⟩
          have HA := Lib.hid ha; clear ha OD
          have Xs := Lib.hid (blk_keep hb1 Xr.out); have Zs := Lib.hid (blk_keep hb1 Zr.out)
          have x0 := blk_at Xs.out (j := 0) rfl; have x1 := blk_at Xs.out (j := 1) rfl; have x2 := blk_at Xs.out (j := 2) rfl
          have z0 := blk_at Zs.out (j := 0) rfl; have z1 := blk_at Zs.out (j := 1) rfl; have z2 := blk_at Zs.out (j := 2) rfl; have zf := blk_free Zs.out
          have bs := Lib.hid (below_app bw.out hb1 bw.out.size)
          go_wp2_with fail
          rw [R.out.1, HA.out]
          refine bodyPost_ret (v := .tuple #[.agg #[.slice sA sn sc, .int .i64 k, .slice dA dn dc], .int .i64 3]) (by simp [results, Try.results80, go_sem, z0, z1, z2]) rfl ⟨dA, dn, dc, rfl, (fun h => by cases h), below_out3 bs.out (by omega) _ _ _⟩
        · rw [postDocs_yes ha]
          rintro e w1 ⟨D, dd, rfl, OD, hb1⟩
          have HA := Lib.hid ha; clear ha
          have Xs := Lib.hid (blk_keep hb1 Xr.out); have Zs := Lib.hid (blk_keep hb1 Zr.out)
          have bs := Lib.hid (below_app bw.out hb1 bw.out.size)
          have BK := Lib.hid (show BooksO w1 lo w1.heap.size _ _ _ _ _ _ from let ⟨us, k1, k2⟩ := HB.out; BooksO.of (k2.drop.below bw.out) hb1 OD (Nat.le_refl _) (Nat.le_trans hlo bw.out.size))
          have x0 := blk_at Xs.out (j := 0) rfl; have x1 := blk_at Xs.out (j := 1) rfl; have x2 := blk_at Xs.out (j := 2) rfl; have xf := blk_free Xs.out
          have z0 := blk_at Zs.out (j := 0) rfl; have z1 := blk_at Zs.out (j := 1) rfl; have z2 := blk_at Zs.out (j := 2) rfl; have zf := blk_free Zs.out
          clear OD hb1
          generalize (withDoc ds day (nz es)).length = dl at *
          have BK1 := Lib.hid (BK.out.setq (j := 2) (u := .slice D dl dd) Xs.out rfl)
          have Zt := Lib.hid (show (w1.setCell ⟨w.heap.size, 2, none⟩ (.slice D dl dd)).heap[w.heap.size + 1]? = _ from (Below.heap_setCell _ _ _ _ (Nat.succ_ne_self _)).trans Zs.out)
          have bt := Lib.hid (bs.out.setCell (p := ⟨w.heap.size, 2, none⟩) (Nat.le_refl _) (.slice D dl dd))
          go_wp2_with fail
          rw [R.out.1, HA.out, R.out.2]
          refine bodyPost_ret (v := .tuple #[.agg #[.slice sA sn sc, .int .i64 k, .slice D dl dd], .int .i64 0]) (by simp [results, Try.results80, go_sem, z0, z1, z2]) rfl ⟨D, dl, dd, rfl, fun _ => ?_, below_out3 bt.out (by omega) _ _ _⟩
          exact (BK1.out.out3 Zt.out _ _ _).top
end Go.Proofs.Ytlgodbjbllpipaa
