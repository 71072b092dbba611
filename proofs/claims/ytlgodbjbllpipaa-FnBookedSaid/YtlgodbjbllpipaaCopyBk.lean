/- The walks of copyBooks and l36Copy. No condition. -/
import Derived.Test.YtlgodbjbllpipaaBkO
import Derived.Test.YtlgodbjbllpipaaLayE
import Derived.Test.YtlgodbjbllpipaaHeldLast
namespace Go.Proofs.Ytlgodbjbllpipaa
open Go.ChangeShapes Go.WideShapes Go.ChangeAt Go.RowKit

theorem own_sides {v v' : Value} {q : Nat} (h : v'.ownBlock = v.ownBlock ∨ v'.ownBlock = some q) : v'.ownBlock = v.ownBlock ∨ ∀ k, v'.ownBlock = some k → q ≤ k :=
  h.imp id fun e k hk => by rw [e] at hk; injection hk with hk; omega

set_option maxRecDepth 100000 in
set_option maxHeartbeats 4000000 in
theorem implCopyBk (sA : Option Addr) (sn sc : Nat) (k : Int) (dA : Option Addr) (dn dc : Nat) (ss : List Shf) (ds : List Doc) (w : World) (hr : ShelvesR w sA sn ss) (hd : DocsR w dA dn ds) (hn : sn ≤ 1048600) (hm : dn ≤ 1048600)
    (hss : ∀ s ∈ ss, s.ids.length ≤ 1048600 ∧ s.lays.length ≤ 1048600) (hds : ∀ d ∈ ds, d.ents.length ≤ 1048600) :
    Calls Try.prog 58 #[.agg #[.slice sA sn sc, .int .i64 k, .slice dA dn dc]] w fun e w' => ∃ A c B d, e = .returned (.agg #[.slice A sn c, .int .i64 k, .slice B dn d]) ∧
      BooksO w' w.heap.size w'.heap.size (.slice A sn c) sn ss (.slice B dn d) dn ds ∧ Below w.heap.size w w' := by
  have hl := Lib.hid hr.len
  have SS := Lib.hid hss; have DS := Lib.hid hds
  clear hss hds
  obtain ⟨i0, hi, hz0, hz1, hz2⟩ := info_parts shfInfo
  obtain ⟨j0, hi', hz0', hz1', hz2'⟩ := info_parts intInfo
  have b0 := Lib.hid (below_then (below_box w (Obj.cells #[.slice sA sn sc, .int .i64 k, .slice dA dn dc] 31)) (below_box _ (Obj.cells #[.slice none 0 0, .int .i64 0, .slice none 0 0] 31)))
  have X := Lib.hid (blk_alloc (blk_new1 w (Obj.cells #[.slice sA sn sc, .int .i64 k, .slice dA dn dc] 31)) (Obj.cells #[.slice none 0 0, .int .i64 0, .slice none 0 0] 31))
  have Z := Lib.hid (blk_new2 w (Obj.cells #[.slice sA sn sc, .int .i64 k, .slice dA dn dc] 31) (Obj.cells #[.slice none 0 0, .int .i64 0, .slice none 0 0] 31))
  have hr := hr.below b0.out; have hd := hd.below b0.out
  go_enter Try.func58, Try.ntmps58
  go_wp2_with fail
  have WS : ((w.alloc (Obj.cells #[.slice sA sn sc, .int .i64 k, .slice dA dn dc] 31)).alloc (Obj.cells #[.slice none 0 0, .int .i64 0, .slice none 0 0] 31)).heap.size = w.heap.size + 1 + 1 := by simp
  generalize (w.alloc (Obj.cells #[.slice sA sn sc, .int .i64 k, .slice dA dn dc] 31)).alloc (Obj.cells #[.slice none 0 0, .int .i64 0, .slice none 0 0] 31) = W at *
  have n1 : ¬ w.heap.size = W.heap.size := by omega
  have n2 : ¬ W.heap.size = w.heap.size := by omega
  replace WS := Lib.hid WS
  have x0 := blk_at X.out (j := 0) rfl; have x1 := blk_at X.out (j := 1) rfl; have x2 := blk_at X.out (j := 2) rfl
  go_region_held3 (fun w' => w'.cell? ⟨w.heap.size, 1, none⟩ = some (.int .i64 k) ∧ w'.cell? ⟨w.heap.size, 2, none⟩ = some (.slice dA dn dc))
    (first
      | go_keep
      | (go_split_ands; exact ⟨cell_keep h1 ‹_›, cell_keep h1 ‹_›⟩)
      | (go_split_ands; exact ⟨cell_alloc y1 _, cell_alloc y2 _⟩))
    (first
      | (go_at_call 83; refine (implCopyDocs _ _ _ ds (W.alloc (Obj.cells #[.slice none 0 0, .int .i64 0, .slice none 0 0] 31)).drew (hd.below ((below_box W _).drew)) hm DS.out).mono ?_; rintro e v1 ⟨A1, c1, rfl, O1, h1⟩; have Q := blk_keep h1 (show (W.alloc (Obj.cells #[.slice none 0 0, .int .i64 0, .slice none 0 0] 31)).drew.heap[W.heap.size]? = some (Obj.cells #[.slice none 0 0, .int .i64 0, .slice none 0 0] 31 (0, 0)) from blk_new1 W _); have q0 := blk_at Q (j := 0) rfl; have q1 := blk_at Q (j := 1) rfl; have q2 := blk_at Q (j := 2) rfl; have qf := blk_free Q; have y1 := cell_keep h1 (show (W.alloc (Obj.cells #[.slice none 0 0, .int .i64 0, .slice none 0 0] 31)).drew.cell? ⟨w.heap.size, 1, none⟩ = some (.int .i64 k) from cell_alloc x1 _); have y2 := cell_keep h1 (show (W.alloc (Obj.cells #[.slice none 0 0, .int .i64 0, .slice none 0 0] 31)).drew.cell? ⟨w.heap.size, 2, none⟩ = some (.slice dA dn dc) from cell_alloc x2 _))
      | (go_at_call 83; refine (implCopyDocs _ _ _ ds W.drew (hd.below ((Below.refl _ _).drew)) hm DS.out).mono ?_; rintro e v1 ⟨A1, c1, rfl, O1, h1⟩; have y1 := cell_keep h1 (show W.drew.cell? ⟨w.heap.size, 1, none⟩ = some (.int .i64 k) from x1); have y2 := cell_keep h1 (show W.drew.cell? ⟨w.heap.size, 2, none⟩ = some (.slice dA dn dc) from x2)))
  focus
    have Vq := blk_new1 v1 (Obj.cells #[.slice none 0 0, .int .i64 k, .slice A1 dn c1] 31)
    have OD := O1.below (below_box v1 (Obj.cells #[.slice none 0 0, .int .i64 k, .slice A1 dn c1] 31))
    have BV := ((Below.refl W.heap.size W).drew.trans h1).alloc (Nat.le_trans h1.size (Nat.le_refl _)) (Obj.cells #[.slice none 0 0, .int .i64 k, .slice A1 dn c1] 31)
    obtain ⟨lo, hlo⟩ : ∃ q, q = W.drew.heap.size := ⟨_, rfl⟩
    obtain ⟨hi2, hhi⟩ : ∃ q, q = v1.heap.size := ⟨_, rfl⟩
    obtain ⟨q, hq⟩ : ∃ q, q = v1.heap.size := ⟨_, rfl⟩
    have F1 : W.heap.size ≤ lo := by rw [hlo]; exact Nat.le_refl _
    have F2 : q < lo ∨ hi2 ≤ q := .inr (by omega)
    have F3 : W.heap.size ≤ q := by rw [hq]; exact h1.size
    have F4 : hi2 ≤ (v1.alloc (Obj.cells #[.slice none 0 0, .int .i64 k, .slice A1 dn c1] 31)).heap.size := by rw [hhi]; simp
    have F5 : lo ≤ (v1.alloc (Obj.cells #[.slice none 0 0, .int .i64 k, .slice A1 dn c1] 31)).heap.size := by rw [hlo]; refine Nat.le_trans (show W.heap.size ≤ v1.heap.size from h1.size) (by simp)
    rw [← hlo, ← hhi] at OD
    rw [← hq] at Vq
    rw [← hq]
    clear hq hlo hhi
    obtain ⟨V, hV⟩ : ∃ V, V = v1.alloc (Obj.cells #[.slice none 0 0, .int .i64 k, .slice A1 dn c1] 31) := ⟨_, rfl⟩
    rw [← hV] at OD BV Vq F4 F5
    rw [← hV]
    clear hV h1 O1 y1 y2 x0 x1 x2
  rotate_left
  focus
    have Vq : (((v1.setCell ⟨W.heap.size, 0, none⟩ (.slice none 0 0)).setCell ⟨W.heap.size, 1, none⟩ (.int .i64 k)).setCell ⟨W.heap.size, 2, none⟩ (.slice A1 dn c1)).heap[W.heap.size]? = some (Obj.cells #[.slice none 0 0, .int .i64 k, .slice A1 dn c1] 31 (0, 0)) := heap_setCell_same _ W.heap.size 2 _ _ (.slice A1 dn c1) (heap_setCell_same _ W.heap.size 1 _ _ (.int .i64 k) (heap_setCell_same v1 W.heap.size 0 _ _ (.slice none 0 0) Q))
    have sz : (W.alloc (Obj.cells #[.slice none 0 0, .int .i64 0, .slice none 0 0] 31)).drew.heap.size = W.heap.size + 1 := by show (W.alloc _).heap.size = _; simp
    have h1' : Below W.heap.size W v1 := ((below_box W _).drew).trans (h1.mono (by rw [sz]; omega))
    have OD := ((((show DocsO v1 _ _ _ _ _ _ from O1).within (Within.of_grown (grown_set v1 ⟨W.heap.size, 0, none⟩ (.slice none 0 0)) (lo := W.heap.size) (hi := W.heap.size + 1) (fun j hj => by injection hj with hj; simp only at hj; omega)) (.inr (by rw [sz]; exact Nat.le_refl _))).within (Within.of_grown (grown_set _ ⟨W.heap.size, 1, none⟩ (.int .i64 k)) (lo := W.heap.size) (hi := W.heap.size + 1) (fun j hj => by injection hj with hj; simp only at hj; omega)) (.inr (by rw [sz]; exact Nat.le_refl _))).within (Within.of_grown (grown_set _ ⟨W.heap.size, 2, none⟩ (.slice A1 dn c1)) (lo := W.heap.size) (hi := W.heap.size + 1) (fun j hj => by injection hj with hj; simp only at hj; omega)) (.inr (by rw [sz]; exact Nat.le_refl _)))
    have BV := ((h1'.setCell (p := ⟨W.heap.size, 0, none⟩) (Nat.le_refl _) (.slice none 0 0)).setCell (p := ⟨W.heap.size, 1, none⟩) (Nat.le_refl _) (.int .i64 k)).setCell (p := ⟨W.heap.size, 2, none⟩) (Nat.le_refl _) (.slice A1 dn c1)
    obtain ⟨lo, hlo⟩ : ∃ q, q = (W.alloc (Obj.cells #[.slice none 0 0, .int .i64 0, .slice none 0 0] 31)).drew.heap.size := ⟨_, rfl⟩
    obtain ⟨hi2, hhi⟩ : ∃ q, q = v1.heap.size := ⟨_, rfl⟩
    obtain ⟨q, hq⟩ : ∃ q, q = W.heap.size := ⟨_, rfl⟩
    have F1 : W.heap.size ≤ lo := by rw [hlo, sz]; omega
    have F2 : q < lo ∨ hi2 ≤ q := .inl (by rw [hlo, sz, hq]; omega)
    have F3 : W.heap.size ≤ q := by rw [hq]; exact Nat.le_refl _
    have F4 : hi2 ≤ (((v1.setCell ⟨W.heap.size, 0, none⟩ (.slice none 0 0)).setCell ⟨W.heap.size, 1, none⟩ (.int .i64 k)).setCell ⟨W.heap.size, 2, none⟩ (.slice A1 dn c1)).heap.size := by rw [hhi]; simp [World.setCell]
    have F5 : lo ≤ (((v1.setCell ⟨W.heap.size, 0, none⟩ (.slice none 0 0)).setCell ⟨W.heap.size, 1, none⟩ (.int .i64 k)).setCell ⟨W.heap.size, 2, none⟩ (.slice A1 dn c1)).heap.size := by rw [hlo]; refine Nat.le_trans (show _ ≤ v1.heap.size from h1.size) (by simp [World.setCell])
    rw [← hlo, ← hhi] at OD
    obtain ⟨V, hV⟩ : ∃ V, V = ((v1.setCell ⟨W.heap.size, 0, none⟩ (.slice none 0 0)).setCell ⟨W.heap.size, 1, none⟩ (.int .i64 k)).setCell ⟨W.heap.size, 2, none⟩ (.slice A1 dn c1) := ⟨_, rfl⟩
    rw [← hV] at OD BV Vq F4 F5
    rw [← hV]
    rw [← hq] at Vq
    rw [← hq]
    clear hV hq hlo hhi h1 h1' O1 y1 y2 x0 x1 x2 Q q0 q1 q2 qf sz
  rotate_left
  all_goals
    have XV := Lib.hid ((BV.block w.heap.size (by rw [WS.out]; omega)).trans X.out)
    have x0 := blk_at XV.out (j := 0) rfl
    have qV : q < V.heap.size := (Array.getElem?_eq_some_iff.1 Vq).1
    have SE := ShelvesO.empty (own_none V V.heap.size 59 3)
    go_wp2_with fail
    clear x0
    go_loopw [15] (fun i wr => ∃ (j : Nat) (A' : Option Addr) (c' : Nat), j ≤ sn ∧ i = .int .i64 j ∧ wr.heap[q]? = some (Obj.cells #[.slice A' j c', .int .i64 k, .slice A1 dn c1] 31 (0, 0)) ∧ ShelvesO wr V.heap.size wr.heap.size (.slice A' j c') j (ss.take j) [] ∧ DocsO wr lo hi2 (.slice A1 dn c1) dn ds [] ∧ Below W.heap.size W wr ∧ V.heap.size ≤ wr.heap.size) (fun i _ => sn - (intOf i).toNat)
    case atStart => exact ⟨0, none, 0, Nat.zero_le _, rfl, Vq, SE, OD, BV, Nat.le_refl _⟩
    case round =>
      obtain ⟨j, A2, c2, hj, rfl, Q, SO, OD2, hb, hz⟩ := hrel
      clear SE OD Vq BV XV
      have QH := Lib.hid Q; clear Q
      by_cases hlt : j < sn
      · obtain ⟨g, off, rfl, ⟨item, ids, lays⟩, iA, iN, iC, lA, lN, lC, hx, c0, c1', c2', hi0, hlr⟩ := (hr.below hb).shAt hlt
        obtain ⟨s1, s2⟩ := SS.out _ (List.mem_of_getElem? hx)
        have TS := Lib.hid (take_snoc hx)
        simp only at c0 c1' c2' hi0 hlr s1 s2
        have si := hi0.ints; have sl := hlr.lay
        have in1 : iN ≤ 1048600 := by omega
        have ln1 : lN ≤ 1048600 := by omega
        clear hx s1 s2 si sl
        obtain ⟨xs, o0, T⟩ := SO.outer hz
        have TT := Lib.hid T; clear T
        obtain ⟨U, hU⟩ : ∃ U, U = wr.alloc (Obj.cells #[.string item, .slice iA iN iC, .slice lA lN lC] 59) := ⟨_, rfl⟩
        have US : Hid (U.heap.size = wr.heap.size + 1) := by rw [hU]; show (wr.alloc _).heap.size = _; simp
        have BU := Lib.hid (show Below wr.heap.size wr U by rw [hU]; exact below_box wr _)
        have XU := Lib.hid (show U.heap[wr.heap.size]? = some (Obj.cells #[.string item, .slice iA iN iC, .slice lA lN lC] 59 (0, 0)) by rw [hU]; exact blk_new1 wr _)
        have s0 := blk_at XU.out (j := 0) rfl; have s1 := blk_at XU.out (j := 1) rfl; have s2 := blk_at XU.out (j := 2) rfl
        have QU := Lib.hid (blk_keep BU.out QH.out)
        have q0 := blk_at QU.out (j := 0) rfl
        have i1 : (0 : Int) ≤ j := by omega
        have i2 : (j : Int) < sn := by omega
        have hiU := hi0.below BU.out; have hlU := hlr.below BU.out
        have oU := own_below o0 BU.out
        have ag : (Value.slice A2 j c2).ownBlock ≠ some wr.heap.size := fun he => by have := (o0.lt _ he).2; omega
        have aq : (Value.slice A2 j c2).ownBlock ≠ some q := fun he => by have := (o0.lt _ he).1; omega
        have E0 := own_empty U U.heap.size 3 1 (Nat.le_refl _)
        go_wp2_with fail
        rw [← hU]
        clear hU
        have qA := cell_alloc q0
        have q0d : U.drew.cell? ⟨q, 0, none⟩ = some (.slice A2 j c2) := q0
        have qAd := cell_alloc q0d
        have E0' : (U.drew.alloc (Obj.cells #[] 3)).ownsRow U.heap.size 3 1 (.slice (some ⟨U.heap.size, 0, none⟩) 0 0) 0 [] := own_empty U.drew U.heap.size 3 1 (Nat.le_refl _)
        have nw1 : ¬ wr.heap.size = q := by omega
        have nw2 : ¬ q = wr.heap.size := by omega
        refine wp_region_cut (S := (fun w' => w'.cell? ⟨wr.heap.size, 0, none⟩ = some (.string item) ∧ w'.cell? ⟨wr.heap.size, 1, none⟩ = some (.slice iA iN iC) ∧ w'.cell? ⟨wr.heap.size, 2, none⟩ = some (.slice lA lN lC) ∧ w'.cell? ⟨q, 0, none⟩ = some (.slice A2 j c2))) 15 (by kernel_rfl) (by kernel_rfl) (by simp only [List.pop_toArray, List.dropLast_cons_cons, List.dropLast_singleton]; rfl) ⟨s0, s1, s2, q0⟩ (fun hHeld => ?_)
        refine wpAnyH_take (i := 0) (oi := ?_) (v := ?_) (by simp only [List.getElem?_toArray, List.getElem?_cons_zero]; rfl) (by kernel_rfl) (by kernel_rfl) (by kernel_rfl) ?_ (Or.inl ⟨by rfl, ?_⟩) hHeld ?_
        rotate_left 1
        focus exact CutPost.panic fun _ _ _ h => h
        focus (intro w hSw; (try dsimp only at hSw); go_simp; try with_reducible rfl)
        (try simp only [Act.put, List.setIfInBounds_toArray, List.set_cons_zero, List.set_cons_succ])
        refine wpAnyH_take (i := 1) (oi := ?_) (v := ?_) (by simp only [List.getElem?_toArray, List.getElem?_cons_succ, List.getElem?_cons_zero]; rfl) (by kernel_rfl) (by kernel_rfl) (by kernel_rfl) ?_ (Or.inl ⟨by rfl, ?_⟩) hHeld ?_
        rotate_left 1
        focus exact CutPost.panic fun _ _ _ h => h
        focus (intro w hSw; (try dsimp only at hSw); go_simp; try with_reducible rfl)
        (try simp only [Act.put, List.setIfInBounds_toArray, List.set_cons_zero, List.set_cons_succ])
        refine wpAnyH_take (i := 2) (oi := ?_) (v := ?_) (by simp only [List.getElem?_toArray, List.getElem?_cons_succ, List.getElem?_cons_zero]; rfl) (by kernel_rfl) (by kernel_rfl) (by kernel_rfl) ?_ (Or.inl ⟨by rfl, ?_⟩) hHeld ?_
        rotate_left 1
        focus exact CutPost.panic fun _ _ _ h => h
        focus (intro w hSw; (try dsimp only at hSw); go_simp; try with_reducible rfl)
        (try simp only [Act.put, List.setIfInBounds_toArray, List.set_cons_zero, List.set_cons_succ])
        refine wpAnyH_take (i := 3) (oi := ?_) (v := ?_) (by simp only [List.getElem?_toArray, List.getElem?_cons_succ, List.getElem?_cons_zero]; rfl) (by kernel_rfl) (by kernel_rfl) (by kernel_rfl) ?_ (Or.inl ⟨by rfl, ?_⟩) hHeld ?_
        rotate_left 1
        focus exact CutPost.panic fun _ _ _ h => h
        focus (intro w hSw; (try dsimp only at hSw); go_simp; try with_reducible rfl)
        (try simp only [Act.put, List.setIfInBounds_toArray, List.set_cons_zero, List.set_cons_succ])
        refine wpAnyH_take (i := 5) (oi := ?_) (v := ?_) (by simp only [List.getElem?_toArray, List.getElem?_cons_succ, List.getElem?_cons_zero]; rfl) (by kernel_rfl) (by kernel_rfl) (by kernel_rfl) ?_ (Or.inl ⟨by rfl, ?_⟩) hHeld ?_
        rotate_left 1
        focus exact CutPost.panic fun _ _ _ h => h
        focus (intro w hSw; (try dsimp only at hSw); go_simp; try with_reducible rfl)
        (try simp only [Act.put, List.setIfInBounds_toArray, List.set_cons_zero, List.set_cons_succ])
        refine wpAnyH_take (i := 6) (oi := ?_) (v := ?_) (by simp only [List.getElem?_toArray, List.getElem?_cons_succ, List.getElem?_cons_zero]; rfl) (by kernel_rfl) (by kernel_rfl) (by kernel_rfl) ?_ (Or.inl ⟨by rfl, ?_⟩) hHeld ?_
        rotate_left 1
        focus exact CutPost.panic fun _ _ _ h => h
        focus (intro w hSw; (try dsimp only at hSw); go_simp; try with_reducible rfl)
        (try simp only [Act.put, List.setIfInBounds_toArray, List.set_cons_zero, List.set_cons_succ])
        refine wpAnyH_take (i := 8) (oi := ?_) (v := ?_) (by simp only [List.getElem?_toArray, List.getElem?_cons_succ, List.getElem?_cons_zero]; rfl) (by kernel_rfl) (by kernel_rfl) (by kernel_rfl) ?_ (Or.inl ⟨by rfl, ?_⟩) hHeld ?_
        rotate_left 1
        focus exact CutPost.panic fun _ _ _ h => h
        focus (intro w hSw; (try dsimp only at hSw); go_simp; try with_reducible rfl)
        (try simp only [Act.put, List.setIfInBounds_toArray, List.set_cons_zero, List.set_cons_succ])
        refine wpAnyH_take (i := 9) (oi := ?_) (v := ?_) (by simp only [List.getElem?_toArray, List.getElem?_cons_succ, List.getElem?_cons_zero]; rfl) (by kernel_rfl) (by kernel_rfl) (by kernel_rfl) ?_ (Or.inl ⟨by rfl, ?_⟩) hHeld ?_
        rotate_left 1
        focus exact CutPost.panic fun _ _ _ h => h
        focus (intro w hSw; (try dsimp only at hSw); go_simp; try with_reducible rfl)
        (try simp only [Act.put, List.setIfInBounds_toArray, List.set_cons_zero, List.set_cons_succ])
        refine wpAnyH_ready (rs := [4]) (by kernel_rfl) (by simp) ?_
        refine AllReadyH.cons (o := ?_) (by simp only [List.getElem?_toArray, List.getElem?_cons_succ, List.getElem?_cons_zero]; rfl) (fun K hK => ?_) AllReadyH.nil
        go_simp
        refine hK.out _ _ (⟨cell_alloc (show U.drew.cell? _ = _ from s0) _, cell_alloc (show U.drew.cell? _ = _ from s1) _, cell_alloc (show U.drew.cell? _ = _ from s2) _, qAd _⟩) (fun hHeld => ?_)
        clear hK K
        (try simp only [Act.put, List.setIfInBounds_toArray, List.set_cons_zero, List.set_cons_succ])
        refine wpAnyH_ready (rs := [7]) (by kernel_rfl) (by simp) ?_
        refine AllReadyH.cons (o := ?_) (by simp only [List.getElem?_toArray, List.getElem?_cons_succ, List.getElem?_cons_zero]; rfl) (fun K hK => ?_) AllReadyH.nil
        (refine step_app0 _ (by rfl) _ _ _ (by rfl) U.heap.size 3 j0 _ 1 8 Try.underlying56 hi' hz0' hz1' hz2' rfl (by omega) (.slice (some ⟨_, 0, none⟩) 0 0) (by rfl) (by first | exact E0' | exact E0'.drew | exact E0 | exact E0.drew) iA iN iC (intCells ids) (by rfl) (by first | exact hiU.drew.alloc _ | exact (hiU.drew.alloc _).drew | exact hiU.alloc _ | exact (hiU.alloc _).drew) (intCells_one _) (by unfold maxLen; omega) (by omega) (by simp <;> omega) ?_; intro A6 c6 w6 o6 g6 at6 b6; have B6 : Hid (Below U.heap.size U w6) := (by refine Below.trans ?_ b6; go_grown <;> omega); have q6 := cell_keep B6.out q0; have q6d : w6.drew.cell? ⟨q, 0, none⟩ = some (.slice A2 j c2) := q6)
        refine hK.out _ _ (⟨cell_keep B6.out s0, cell_keep B6.out s1, cell_keep B6.out s2, q6⟩) (fun hHeld => ?_)
        clear hK K
        (try simp only [Act.put, List.setIfInBounds_toArray, List.set_cons_zero, List.set_cons_succ])
        refine wpAnyH_ready (rs := [10]) (by kernel_rfl) (by simp) ?_
        refine AllReadyH.cons (o := ?_) (by simp only [List.getElem?_toArray, List.getElem?_cons_succ, List.getElem?_cons_zero]; rfl) (fun K hK => ?_) AllReadyH.nil
        go_simp
        (go_at_call 84; refine (copyLayers_any lA lN lC lays _ (by first | exact hlU.below B6.out | exact (hlU.below B6.out).drew) (by omega)).mono ?_; rintro e w7 ⟨A7, c7, rfl, o7, hb7⟩; have HB7 : Hid (Below w6.heap.size w6 w7) := (by first | exact hb7 | exact (Below.refl _ _).drew.trans hb7); have B7 := Lib.hid (B6.out.trans (HB7.out.mono B6.out.size)); have oo7 := own_below oU B7.out; have q7 := cell_keep B7.out q0; have q7A := cell_alloc q7; have q7d : w7.drew.cell? ⟨q, 0, none⟩ = some (.slice A2 j c2) := q7; have q7dA := cell_alloc q7d; have Q7 := Lib.hid (blk_keep B7.out QU.out))
        go_wp2_with fail
        refine hK.out _ _ (⟨cell_keep B7.out s0, cell_keep B7.out s1, cell_keep B7.out s2, q7⟩) (fun hHeld => ?_)
        clear hK K
        (try simp only [Act.put, List.setIfInBounds_toArray, List.set_cons_zero, List.set_cons_succ])
        refine wpAnyH_take (i := 11) (oi := ?_) (v := ?_) (by simp only [List.getElem?_toArray, List.getElem?_cons_succ, List.getElem?_cons_zero]; rfl) (by kernel_rfl) (by kernel_rfl) (by kernel_rfl) ?_ (Or.inl ⟨by rfl, ?_⟩) hHeld ?_
        rotate_left 1
        focus exact CutPost.panic fun _ _ _ h => h
        focus (intro w hSw; (try dsimp only at hSw); go_simp; try with_reducible rfl)
        (try simp only [Act.put, List.setIfInBounds_toArray, List.set_cons_zero, List.set_cons_succ])
        refine wpAnyH_ready (rs := [12]) (by kernel_rfl) (by simp) ?_
        refine AllReadyH.cons (o := ?_) (by simp only [List.getElem?_toArray, List.getElem?_cons_succ, List.getElem?_cons_zero]; rfl) (fun K hK => ?_) AllReadyH.nil
        go_simp
        refine hK.out _ _ (⟨cell_alloc (cell_keep B7.out s0) _, cell_alloc (cell_keep B7.out s1) _, cell_alloc (cell_keep B7.out s2) _, q7A _⟩) (fun hHeld => ?_)
        clear hK K
        (try simp only [Act.put, List.setIfInBounds_toArray, List.set_cons_zero, List.set_cons_succ])
        refine wpAnyH_ready (rs := [13]) (by kernel_rfl) (by simp) ?_
        refine AllReadyH.cons (o := ?_) (by simp only [List.getElem?_toArray, List.getElem?_cons_succ, List.getElem?_cons_zero]; rfl) (fun K hK => ?_) AllReadyH.nil
        (refine step_app _ (by rfl) _ _ _ (by rfl) V.heap.size 59 i0 _ 3 64 Try.underlying28 hi hz0 hz1 hz2 rfl (by omega) (.slice A2 j c2) j xs (by rfl) (by first | exact oo7 | exact oo7.drew | exact (oo7.alloc _) | exact (oo7.alloc _).drew | exact (oo7.drew.alloc _) | exact (oo7.drew.alloc _).drew) _ 1 1 [.string item, .slice A6 iN c6, .slice A7 lN c7] (by rfl) (by first | exact RS_new (by simp) | exact (RS_new (by simp)).drew) (by simp [Value.oneCell']) (by unfold maxLen; omega) (by omega) (by have := B7.out.size; have := US.out; simp; omega) ?_; intro A8 c8 w8 o8 g8 at8 b8; have Q8 := Lib.hid ((b8.block q qV).trans (blk_alloc Q7.out (Obj.cells #[.string item, .slice A6 iN c6, .slice A7 lN c7] 59))); have q8 := blk_at Q8.out (j := 0) rfl; have f8 := blk_free Q8.out 0)
        refine hK.out _ _ (by refine ⟨?_, ?_, ?_, q8⟩ <;> (rw [g8.cell_far _ (by have := B7.out.size; have := US.out; simp; omega) (Ne.symm ag)]; first | exact cell_alloc (cell_keep B7.out s0) _ | exact cell_alloc (cell_keep B7.out s1) _ | exact cell_alloc (cell_keep B7.out s2) _)) (fun hHeld => ?_)
        clear hK K
        (try simp only [Act.put, List.setIfInBounds_toArray, List.set_cons_zero, List.set_cons_succ])
        refine wpAnyH_take (i := 14) (oi := ?_) (v := ?_) (by simp only [List.getElem?_toArray, List.getElem?_cons_succ, List.getElem?_cons_zero]; rfl) (by kernel_rfl) (by kernel_rfl) (by kernel_rfl) ?_ (Or.inl ⟨by rfl, ?_⟩) hHeld ?_
        rotate_left 1
        focus exact CutPost.panic fun _ _ _ h => h
        focus (intro w hSw; (try dsimp only at hSw); go_simp; try with_reducible rfl)
        (try simp only [Act.put, List.setIfInBounds_toArray, List.set_cons_zero, List.set_cons_succ])
        refine wpAnyH_done (by kernel_rfl) ?_ _
        refine CutPost.step (o := ?_) (by simp only [List.getElem?_toArray, List.getElem?_cons_succ, List.getElem?_cons_zero]; rfl) (fun K hK => ?_)
        go_simp
        refine hK _ _ ?_
        clear hK K
        (try simp only [Act.put, List.setIfInBounds_toArray, List.set_cons_zero, List.set_cons_succ])
        all_goals
          have O67 := (((Owns.one (own_base o6 (show wr.heap.size ≤ U.heap.size by rw [US.out]; omega))).cons HB7.out o7 (Nat.le_refl _) (by have := B6.out.size; have := US.out; omega)).perm (List.Perm.swap _ _ _)).below (below_box w7 (Obj.cells #[.string item, .slice A6 iN c6, .slice A7 lN c7] 59))
          have BW7 : Below wr.heap.size wr (w7.alloc (Obj.cells #[.string item, .slice A6 iN c6, .slice A7 lN c7] 59)) := (BU.out.trans (B7.out.mono (by rw [US.out]; omega))).alloc (Nat.le_trans (Nat.le_trans (Nat.le_succ _) (Nat.le_of_eq US.out.symm)) B7.out.size) _
          have SO8 := TT.out (w7.alloc (Obj.cells #[.string item, .slice A6 iN c6, .slice A7 lN c7] 59)) w8 ⟨item, A6, iN, c6, A7, lN, c7⟩ ⟨item, ids, lays⟩ (.slice A8 (j + 1) c8) BW7 rfl O67.top g8 o8 (own_sides at8)
          rw [← TS.out] at SO8
          have B8 : Below V.heap.size wr w8 := (BW7.mono hz).trans b8
          have OD8 := (OD2.low B8 F4).within (Within.of_grown (grown_set w8 ⟨q, 0, none⟩ (.slice A8 (j + 1) c8)) (lo := q) (hi := q + 1) (fun r hr => by injection hr with hr; simp only at hr; omega)) (by omega)
          have SO9 := (SO8.set ⟨q, 0, none⟩ (.slice A8 (j + 1) c8) qV).top
          have Q9 := heap_setCell_same w8 q 0 _ _ (.slice A8 (j + 1) c8) Q8.out
          have HB9 := (hb.trans (B8.mono (Nat.le_trans F3 (Nat.le_of_lt qV)))).setCell (p := ⟨q, 0, none⟩) F3 (.slice A8 (j + 1) c8)
          have z9 : V.heap.size ≤ (w8.setCell ⟨q, 0, none⟩ (.slice A8 (j + 1) c8)).heap.size := by have := B8.size; simp [World.setCell]; omega
          go_wp2_with fail
          go_roundw
          case rel => exact ⟨j + 1, A8, c8, by omega, by go_num, Q9, SO9, OD8, HB9, z9⟩
          case measure => simp [intOf]; omega
      · obtain rfl : sn = j := by omega
        have TK := Lib.hid (show ss.take sn = ss by rw [List.take_of_length_le (by rw [hl.out]; exact Nat.le_refl _)])
        rw [TK.out] at SO
        have q0 := blk_at QH.out (j := 0) rfl; have q1 := blk_at QH.out (j := 1) rfl; have q2 := blk_at QH.out (j := 2) rfl
        have ZW := Lib.hid ((hb.block (w.heap.size + 1) (by rw [WS.out]; omega)).trans Z.out)
        have r0 := blk_at ZW.out (j := 0) rfl; have r1 := blk_at ZW.out (j := 1) rfl; have r2 := blk_at ZW.out (j := 2) rfl; have rf := blk_free ZW.out
        have lw : w.heap.size + 1 < lo := by have := WS.out; omega
        have BK := (((BooksO.of3 OD2 SO (by omega) (by omega)).set ⟨w.heap.size + 1, 0, none⟩ (.slice A2 sn c2) lw).set ⟨w.heap.size + 1, 1, none⟩ (.int .i64 k) lw).set ⟨w.heap.size + 1, 2, none⟩ (.slice A1 dn c1) lw
        have BB := ((((below_app b0.out hb b0.out.size)).setCell (p := ⟨w.heap.size + 1, 0, none⟩) (Nat.le_succ _) (.slice A2 sn c2)).setCell (p := ⟨w.heap.size + 1, 1, none⟩) (Nat.le_succ _) (.int .i64 k)).setCell (p := ⟨w.heap.size + 1, 2, none⟩) (Nat.le_succ _) (.slice A1 dn c1)
        go_wp2_with fail
        refine bodyPost_ret (v := .agg #[.slice A2 sn c2, .int .i64 k, .slice A1 dn c1]) (by simp [results, Try.results58, go_sem, r0, r1, r2]) rfl ⟨A2, c2, A1, c1, rfl, ?_, BB⟩
        exact BK.top.mono (by have := WS.out; omega) (Nat.le_refl _)
end Go.Proofs.Ytlgodbjbllpipaa
