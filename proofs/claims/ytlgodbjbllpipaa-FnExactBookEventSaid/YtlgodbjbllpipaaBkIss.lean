/- The walks of issue and l36Issue. No condition. -/
import Derived.Test.YtlgodbjbllpipaaBkRecvS
import Derived.Test.YtlgodbjbllpipaaLayF
namespace Go.Proofs.Ytlgodbjbllpipaa
open Go.ChangeShapes Go.WideShapes Go.ChangeAt Go.RowKit

set_option maxRecDepth 100000 in
set_option maxHeartbeats 8000000 in
theorem implIssueBk (lo q : Nat) (ss : List Shf) (k : Int) (ds : List Doc) (e : Ev) (w : World) (h : BkO w lo q ss k ds) (hlo : lo ≤ w.heap.size) (hss : shsOk ss = true) :
    Calls Try.prog 87 #[.pointer (some ⟨q, 0, none⟩), evAgg e] w fun r w' => ∃ c, r = .returned (.tuple #[.int .i64 c, .bool (issOk ss e.item e.q)]) ∧ (issOk ss e.item e.q = true → c = issCost ss e.item e.q ∧ BkO w' lo q (issSs ss e.item e.q) k ds) ∧ Below lo w w' ∧ Keeps (some q) w w' := by
  obtain ⟨sA, sn, sc, dA, dn, dc, hq, hlq, hbk⟩ := h
  have hl := Lib.hid hbk.shelves.len
  have n12 : sn ≤ 12 := by rw [← hl.out]; exact shsOk_len hss
  have SG := Lib.hid (shGood_lays hss e.item)
  have qs : q < w.heap.size := (Array.getElem?_eq_some_iff.1 hq).1
  have b0 := Lib.hid (below_box w (Obj.cells #[.int .i64 e.id, .int .i64 e.day, .int .i64 e.kind, .string e.item, .int .i64 e.q, .int .i64 e.a, .int .i64 e.r] 44))
  have E := Lib.hid (blk_new1 w (Obj.cells #[.int .i64 e.id, .int .i64 e.day, .int .i64 e.kind, .string e.item, .int .i64 e.q, .int .i64 e.a, .int .i64 e.r] 44))
  have Q := Lib.hid (blk_keep b0.out hq)
  have HB := Lib.hid (hbk.below b0.out)
  clear hq hbk
  go_enter Try.func87, Try.ntmps87
  go_wp2_with fail
  have WS : (w.alloc (Obj.cells #[.int .i64 e.id, .int .i64 e.day, .int .i64 e.kind, .string e.item, .int .i64 e.q, .int .i64 e.a, .int .i64 e.r] 44)).heap.size = w.heap.size + 1 := by simp
  generalize w.alloc (Obj.cells #[.int .i64 e.id, .int .i64 e.day, .int .i64 e.kind, .string e.item, .int .i64 e.q, .int .i64 e.a, .int .i64 e.r] 44) = W at *
  replace WS := Lib.hid WS
  have q0 := blk_at Q.out (j := 0) rfl; have q1 := blk_at Q.out (j := 1) rfl; have q2 := blk_at Q.out (j := 2) rfl
  have e3 := (evCells E.out).2.2.2.1
  go_region_held3 (fun w' => w'.cell? ⟨q, 0, none⟩ = some (.slice sA sn sc) ∧ w'.cell? ⟨q, 1, none⟩ = some (.int .i64 k) ∧ w'.cell? ⟨q, 2, none⟩ = some (.slice dA dn dc) ∧ w'.cell? ⟨w.heap.size, 3, none⟩ = some (.string e.item))
    (first
      | go_keep
      | (go_split_ands; exact ⟨cell_keep hb1 q0, cell_keep hb1 q1, cell_keep hb1 q2, cell_keep hb1 e3⟩))
    (first | (go_at_call 53; refine (implShelfOf _ _ _ _ _ _ _ ss _ W.drew (HB.out.shelves.below (Below.refl _ _).drew) (by omega)).mono ?_; rintro e' V ⟨rfl, hb1⟩))
  have B1 := Lib.hid (show Below W.heap.size W V from (Below.refl _ _).drew.trans hb1)
  have QV := Lib.hid (blk_keep B1.out Q.out); have EV := Lib.hid (blk_keep B1.out E.out)
  have BV := Lib.hid (HB.out.below B1.out).top
  have bV := Lib.hid ((b0.out.mono hlo).trans (B1.out.mono (by rw [WS.out]; omega)))
  have kV := Lib.hid ((Keeps.below (q := some q) b0.out).trans (Keeps.below B1.out))
  clear q0 q1 q2 e3 hb1 B1 E Q HB WS b0
  have zV : lo ≤ V.heap.size := Nat.le_trans hlo bV.out.size
  rcases shelfAt_cases ss e.item with ⟨h0, _⟩ | ⟨p, x, h0, hx, he, _⟩
  · have R := Lib.hid (show issOk ss e.item e.q = false by simp [issOk, h0])
    rw [h0]
    clear h0
    go_wp2_with fail
    go_ret2
    rw [R.out]
    exact ⟨_, rfl, (fun h => by cases h), bV.out, kV.out⟩
  · have hpm : p < sn := by rw [← hl.out]; exact (List.getElem?_eq_some_iff.1 hx).1
    have SP := shGet_at h0 hx
    have R := Lib.hid (show issOk ss e.item e.q = issueOk x.lays e.q by simp [issOk, h0, SP])
    have RC := Lib.hid (show issCost ss e.item e.q = issueCost x.lays e.q by simp [issCost, SP])
    have RS := Lib.hid (show issSs ss e.item e.q = ss.set p ⟨x.item, x.ids, issueOut x.lays e.q⟩ by simp [issSs, SP, h0, he])
    have HX := Lib.hid hx
    obtain ⟨sg1, sg2⟩ := SG.out
    rw [SP] at sg1 sg2
    rw [h0]
    clear h0 hx he SP SG
    have q0 := blk_at QV.out (j := 0) rfl
    obtain ⟨us, hus, SO⟩ := BV.out
    have US := Lib.hid hus; clear hus
    obtain ⟨g, rfl, hg1, hg2, ⟨cs, hcs⟩, hgf, s, iA, iC, lA, lC, hs, c0, c1, c2, oi, rl, RELAY, _⟩ := SO.shelf hpm zV
    rw [HX.out] at hs
    obtain rfl := Option.some.inj hs
    have RL := Lib.hid RELAY
    clear hs RELAY
    have i0 : ¬ (p : Int) < 0 := by omega
    have i1 : (0 : Int) ≤ p := by omega
    have i2 : (p : Int) < sn := by omega
    have e4 := (evCells EV.out).2.2.2.2.1
    have ol := issueOut_len x.lays e.q
    cases ha : issueOk x.lays e.q
    all_goals
      have HA := Lib.hid ha; clear ha
      rw [HA.out] at R
      go_wp2_with fail
      go_region_held3 (fun w' => w'.cell? ⟨q, 0, none⟩ = some (.slice (some ⟨g, 0, none⟩) sn sc) ∧ w'.cell? ⟨g, p * 3 + 2, none⟩ = some (.slice lA x.lays.length lC) ∧ w'.cell? ⟨w.heap.size, 4, none⟩ = some (.int .i64 e.q))
        (first
          | go_keep
          | (go_split_ands; exact ⟨cell_keep hb2 q0, cell_keep hb2 c2, cell_keep hb2 e4⟩))
        (first | (go_at_call 116; refine (implIssue _ _ _ x.lays _ V.drew (rl.drewN 1) (by omega)).mono ?_; rw [HA.out]; rintro e' w2 ⟨A2, c2', rfl, o2, hb2⟩))
      have B2 := Lib.hid (show Below V.heap.size V w2 from (Below.refl _ _).drew.trans hb2)
    · go_wp2_with fail
      go_ret2
      rw [R.out]
      exact ⟨_, rfl, (fun h => by cases h), bV.out.trans (B2.out.mono zV), kV.out.trans (Keeps.below B2.out)⟩
    · have Q2 := Lib.hid (blk_keep B2.out QV.out)
      have hcs2 := Lib.hid (blk_keep B2.out hcs)
      obtain ⟨ln, hln⟩ : ∃ ln, ln = (issueOut x.lays e.q).length := ⟨_, rfl⟩
      rw [← hln] at o2 ⊢
      have SO2 := Lib.hid (RL.out w2 A2 ln c2' (issueOut x.lays e.q) B2.out o2).top
      have C2 := cell_keep B2.out c2; have f2 := blk_free hcs2.out; have q02 := cell_keep B2.out q0
      clear c0 c1 c2 e4 q0 o2 hb2 oi rl hln ol
      go_wp2_with fail
      go_ret2
      have K2 := Lib.hid (Keeps.set (q := none) (u := .slice A2 ln c2') (p := ⟨g, p * 3 + 2, none⟩) hcs2.out (by decide) (by decide))
      rw [R.out]
      refine ⟨_, rfl, fun _ => ⟨RC.out.symm, _, sn, sc, dA, dn, dc, K2.out _ _ _ (.inr ⟨rfl, by simp⟩) Q2.out, hlq, us, US.out, ?_⟩, (bV.out.trans (B2.out.mono zV)).setCell (p := ⟨g, p * 3 + 2, none⟩) hg1 _, (kV.out.trans (Keeps.below B2.out)).trans (K2.out.one q)⟩
      rw [RS.out]
      exact SO2.out
def fewCode (b : Bool) : Int := if b then 0 else 2
theorem fewCode_yes : fewCode true = 0 := rfl
theorem fewCode_no : fewCode false = 2 := rfl
set_option maxRecDepth 100000 in
set_option maxHeartbeats 8000000 in
theorem specIssueBk (lo hi2 : Nat) (sA : Option Addr) (sn sc : Nat) (k : Int) (dA : Option Addr) (dn dc : Nat) (ss : List Shf) (ds : List Doc) (e : Ev) (w : World) (hbk : BooksO w lo hi2 (.slice sA sn sc) sn ss (.slice dA dn dc) dn ds) (hlo : lo ≤ w.heap.size) (hss : shsOk ss = true) :
    Calls Try.prog 81 #[.agg #[.slice sA sn sc, .int .i64 k, .slice dA dn dc], evAgg e] w fun r w' => ∃ A n c D m d y, r = .returned (.tuple #[.agg #[.slice A n c, .int .i64 k, .slice D m d], .int .i64 y, .int .i64 (fewCode (issOk ss e.item e.q))]) ∧
      (issOk ss e.item e.q = true → y = issCost ss e.item e.q ∧ BooksO w' lo w'.heap.size (.slice A n c) n (issSs ss e.item e.q) (.slice D m d) m ds) ∧ Below lo w w' ∧ Keeps none w w' := by
  have hl := Lib.hid hbk.shelves.len
  have n12 : sn ≤ 12 := by rw [← hl.out]; exact shsOk_len hss
  have SG := Lib.hid (shGood_lays hss e.item)
  have b0 := Lib.hid (below_then (below_then (below_box w (Obj.cells #[.slice sA sn sc, .int .i64 k, .slice dA dn dc] 31)) (below_box _ (Obj.cells #[.int .i64 e.id, .int .i64 e.day, .int .i64 e.kind, .string e.item, .int .i64 e.q, .int .i64 e.a, .int .i64 e.r] 44))) (below_box _ (Obj.cells #[.slice none 0 0, .int .i64 0, .slice none 0 0] 31)))
  have Q := Lib.hid (blk_alloc (blk_alloc (blk_new1 w (Obj.cells #[.slice sA sn sc, .int .i64 k, .slice dA dn dc] 31)) (Obj.cells #[.int .i64 e.id, .int .i64 e.day, .int .i64 e.kind, .string e.item, .int .i64 e.q, .int .i64 e.a, .int .i64 e.r] 44)) (Obj.cells #[.slice none 0 0, .int .i64 0, .slice none 0 0] 31))
  have E := Lib.hid (blk_alloc (blk_new2 w (Obj.cells #[.slice sA sn sc, .int .i64 k, .slice dA dn dc] 31) (Obj.cells #[.int .i64 e.id, .int .i64 e.day, .int .i64 e.kind, .string e.item, .int .i64 e.q, .int .i64 e.a, .int .i64 e.r] 44)) (Obj.cells #[.slice none 0 0, .int .i64 0, .slice none 0 0] 31))
  have Z := Lib.hid (blk_new3 w (Obj.cells #[.slice sA sn sc, .int .i64 k, .slice dA dn dc] 31) (Obj.cells #[.int .i64 e.id, .int .i64 e.day, .int .i64 e.kind, .string e.item, .int .i64 e.q, .int .i64 e.a, .int .i64 e.r] 44) (Obj.cells #[.slice none 0 0, .int .i64 0, .slice none 0 0] 31))
  have HB := Lib.hid (hbk.below b0.out)
  clear hbk
  go_enter Try.func81, Try.ntmps81
  go_wp2_with fail
  have WS : (((w.alloc (Obj.cells #[.slice sA sn sc, .int .i64 k, .slice dA dn dc] 31)).alloc (Obj.cells #[.int .i64 e.id, .int .i64 e.day, .int .i64 e.kind, .string e.item, .int .i64 e.q, .int .i64 e.a, .int .i64 e.r] 44)).alloc (Obj.cells #[.slice none 0 0, .int .i64 0, .slice none 0 0] 31)).heap.size = w.heap.size + 1 + 1 + 1 := by simp
  generalize ((w.alloc (Obj.cells #[.slice sA sn sc, .int .i64 k, .slice dA dn dc] 31)).alloc (Obj.cells #[.int .i64 e.id, .int .i64 e.day, .int .i64 e.kind, .string e.item, .int .i64 e.q, .int .i64 e.a, .int .i64 e.r] 44)).alloc (Obj.cells #[.slice none 0 0, .int .i64 0, .slice none 0 0] 31) = W at *
  replace WS := Lib.hid WS
  refine (specShelfOf _ _ _ _ _ _ _ ss _ W HB.out.shelves (by omega)).mono ?_; rintro e' V ⟨rfl, B1⟩
  have QV := Lib.hid (blk_keep B1 Q.out); have EV := Lib.hid (blk_keep B1 E.out); have ZV := Lib.hid (blk_keep B1 Z.out)
  have BV := Lib.hid (HB.out.below B1).top
  have bV := Lib.hid ((b0.out.mono hlo).trans (B1.mono (by rw [WS.out]; omega)))
  have kV := Lib.hid ((Keeps.below (q := some w.heap.size) b0.out).trans (Keeps.below B1))
  clear B1 E Q Z HB WS b0
  have zV : lo ≤ V.heap.size := Nat.le_trans hlo bV.out.size
  rcases shelfAt_cases ss e.item with ⟨h0, _⟩ | ⟨p, x, h0, hx, he, _⟩
  · have R := Lib.hid (show issOk ss e.item e.q = false by simp [issOk, h0])
    rw [h0]
    clear h0
    have QF := QV; have ZF := ZV
    have z0 := blk_at ZF.out (j := 0) rfl; have z1 := blk_at ZF.out (j := 1) rfl; have z2 := blk_at ZF.out (j := 2) rfl; have zf := blk_free ZF.out
    have x0 := blk_at QF.out (j := 0) rfl; have x1 := blk_at QF.out (j := 1) rfl; have x2 := blk_at QF.out (j := 2) rfl
    go_wp2_with fail
    rw [R.out]
    refine bodyPost_ret (v := .tuple #[.agg #[.slice sA sn sc, .int .i64 k, .slice dA dn dc], .int .i64 0, .int .i64 2]) (by simp [results, Try.results81, go_sem, z0, z1, z2]) rfl ⟨_, sn, sc, dA, dn, dc, _, rfl, (fun h => by cases h), below_out3 bV.out (by omega) _ _ _, Keeps.fresh3 kV.out (Nat.le_refl _) (below_out3 (Below.refl _ _) (by omega) _ _ _)⟩
  · have hpm : p < sn := by rw [← hl.out]; exact (List.getElem?_eq_some_iff.1 hx).1
    have SP := shGet_at h0 hx
    have R := Lib.hid (show issOk ss e.item e.q = issueOk x.lays e.q by simp [issOk, h0, SP])
    have RC := Lib.hid (show issCost ss e.item e.q = issueCost x.lays e.q by simp [issCost, SP])
    have RS := Lib.hid (show issSs ss e.item e.q = ss.set p ⟨x.item, x.ids, issueOut x.lays e.q⟩ by simp [issSs, SP, h0, he])
    have HX := Lib.hid hx
    obtain ⟨sg1, sg2⟩ := SG.out
    rw [SP] at sg1 sg2
    rw [h0]
    clear h0 hx he SP SG
    have q0 := blk_at QV.out (j := 0) rfl
    obtain ⟨us, hus, SO⟩ := BV.out
    have US := Lib.hid hus; clear hus
    obtain ⟨g, rfl, hg1, hg2, ⟨cs, hcs⟩, hgf, s, iA, iC, lA, lC, hs, c0, c1, c2, oi, rl, RELAY, _⟩ := SO.shelf hpm zV
    rw [HX.out] at hs
    obtain rfl := Option.some.inj hs
    have RL := Lib.hid RELAY
    clear hs RELAY
    have i0 : ¬ (p : Int) < 0 := by omega
    have i1 : (0 : Int) ≤ p := by omega
    have i2 : (p : Int) < sn := by omega
    have e4 := (evCells EV.out).2.2.2.2.1
    have ol := issueOut_len x.lays e.q
    cases ha : issueOk x.lays e.q
    all_goals
      have HA := Lib.hid ha; clear ha
      rw [HA.out] at R
      go_wp2_with fail
      go_region_held3 (fun w' => w'.cell? ⟨w.heap.size, 0, none⟩ = some (.slice (some ⟨g, 0, none⟩) sn sc) ∧ w'.cell? ⟨g, p * 3 + 2, none⟩ = some (.slice lA x.lays.length lC) ∧ w'.cell? ⟨w.heap.size + 1, 4, none⟩ = some (.int .i64 e.q))
        (first
          | go_keep
          | (go_split_ands; exact ⟨cell_keep hb2 q0, cell_keep hb2 c2, cell_keep hb2 e4⟩))
        (first | (go_at_call 113; refine (specIssue _ _ _ x.lays _ V.drew (rl.drewN 1) (by omega)).mono ?_; rw [HA.out]; rintro e' w2 ⟨A2, c2', rfl, o2, hb2⟩))
      have B2 := Lib.hid (show Below V.heap.size V w2 from (Below.refl _ _).drew.trans hb2)
      have b2 := Lib.hid (bV.out.trans (B2.out.mono zV)); have k2 := Lib.hid (kV.out.trans (Keeps.below B2.out))
      have Q2 := Lib.hid (blk_keep B2.out QV.out); have Z2 := Lib.hid (blk_keep B2.out ZV.out)
    · have QF := Q2; have ZF := Z2
      clear c0 c1 c2 e4 q0 o2 hb2 oi rl
      have z0 := blk_at ZF.out (j := 0) rfl; have z1 := blk_at ZF.out (j := 1) rfl; have z2 := blk_at ZF.out (j := 2) rfl; have zf := blk_free ZF.out
      have x0 := blk_at QF.out (j := 0) rfl; have x1 := blk_at QF.out (j := 1) rfl; have x2 := blk_at QF.out (j := 2) rfl
      go_wp2_with fail
      rw [R.out]
      refine bodyPost_ret (v := .tuple #[.agg #[.slice (some ⟨g, 0, none⟩) sn sc, .int .i64 k, .slice dA dn dc], .int .i64 0, .int .i64 2]) (by simp [results, Try.results81, go_sem, z0, z1, z2]) rfl ⟨_, sn, sc, dA, dn, dc, _, rfl, (fun h => by cases h), below_out3 b2.out (by omega) _ _ _, Keeps.fresh3 k2.out (Nat.le_refl _) (below_out3 (Below.refl _ _) (by omega) _ _ _)⟩
    · have hcs2 := Lib.hid (blk_keep B2.out hcs)
      obtain ⟨ln, hln⟩ : ∃ ln, ln = (issueOut x.lays e.q).length := ⟨_, rfl⟩
      rw [← hln] at o2 ⊢
      have SO2 := Lib.hid (RL.out w2 A2 ln c2' (issueOut x.lays e.q) B2.out o2).top
      have C2 := cell_keep B2.out c2; have f2 := blk_free hcs2.out; have q02 := cell_keep B2.out q0
      clear c0 c1 c2 e4 q0 o2 hb2 oi rl hln ol
      have K2 := Lib.hid (Keeps.set (q := none) (u := .slice A2 ln c2') (p := ⟨g, p * 3 + 2, none⟩) hcs2.out (by decide) (by decide))
      have QF := Lib.hid (K2.out _ _ _ (.inr ⟨rfl, by simp⟩) Q2.out); have ZF := Lib.hid (K2.out _ _ _ (.inr ⟨rfl, by simp⟩) Z2.out)
      have bF := Lib.hid (b2.out.setCell (p := ⟨g, p * 3 + 2, none⟩) hg1 (.slice A2 ln c2'))
      have kF := Lib.hid (k2.out.trans (K2.out.one w.heap.size))
      have z0 := blk_at ZF.out (j := 0) rfl; have z1 := blk_at ZF.out (j := 1) rfl; have z2 := blk_at ZF.out (j := 2) rfl; have zf := blk_free ZF.out
      have x0 := blk_at QF.out (j := 0) rfl; have x1 := blk_at QF.out (j := 1) rfl; have x2 := blk_at QF.out (j := 2) rfl
      go_wp2_with fail
      rw [R.out]
      refine bodyPost_ret (v := .tuple #[.agg #[.slice (some ⟨g, 0, none⟩) sn sc, .int .i64 k, .slice dA dn dc], .int .i64 (issueCost x.lays e.q), .int .i64 0]) (by simp [results, Try.results81, go_sem, z0, z1, z2]) rfl ⟨_, sn, sc, dA, dn, dc, _, rfl, fun _ => ⟨RC.out.symm, ?_⟩, below_out3 bF.out (by omega) _ _ _, Keeps.fresh3 kF.out (Nat.le_refl _) (below_out3 (Below.refl _ _) (by omega) _ _ _)⟩
      rw [RS.out]
      exact (BooksO.out3 ⟨us, US.out, SO2.out⟩ ZF.out _ _ _).top
end Go.Proofs.Ytlgodbjbllpipaa
