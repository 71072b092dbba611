/- The walks of BookEvent. No condition. -/
import Derived.Test.YtlgodbjbllpipaaBkRecvS
import Derived.Test.YtlgodbjbllpipaaLayF
import Derived.Test.YtlgodbjbllpipaaLayH
import Derived.Test.YtlgodbjbllpipaaLay5
import Derived.Test.YtlgodbjbllpipaaCopyBk
namespace Go.Proofs.Ytlgodbjbllpipaa
open Go.ChangeShapes Go.WideShapes Go.ChangeAt Go.RowKit

set_option maxRecDepth 100000 in
set_option maxHeartbeats 8000000 in
theorem implIssueBk (lo q : Nat) (ss : List Shf) (k : Int) (ds : List Doc) (e : Ev) (w : World) (h : BkO w lo q ss k ds) (hlo : lo ≤ w.heap.size) (hss : shsOk ss = true) :
    Calls Try.prog 87 #[.pointer (some ⟨q, 0, none⟩), evAgg e] w fun r w' => ∃ c, r = .returned (.tuple #[.int .i64 c, .bool (issOk ss e.item e.q)]) ∧ (issOk ss e.item e.q = true → c = issCost ss e.item e.q ∧ BkO w' lo q (issSs ss e.item e.q) k ds) ∧ Below lo w w' ∧ Keeps (some q) w w' := by
  obtain ⟨sA, sn, sc, dA, dn, dc, hq, hlq, hbk⟩ := h
  have hl := Lib.hid hbk.shelves.len
  have n12 : sn ≤ 12 := by rw [← hl.out]; exact shsOk_len hss
  have SG := Lib.hid (shGood_lays hss e.item)
  have qs : q < w.heap.size := (Array.getElem?_eq_some_iff.1 hq).1
  have b0 := Lib.hid (below_box w (Obj.cells #[.int .i64 e.id, .int .i64 e.day, .int .i64 e.kind, .string e.item, .int .i64 e.q, .int .i64 e.a, .int .i64 e.r] 44))
  have E := Lib.hid (blk_new1 w (Obj.cells #[.int .i64 e.id, .int .i64 e.day, .int .i64 e.kind, .string e.item, .int .i64 e.q, .int .i64 e.a, .int .i64 e.r] 44))
  have Q := Lib.hid (blk_keep b0.out hq)
  have HB := Lib.hid (hbk.below b0.out)
  clear hq hbk
  go_enter Try.func87, Try.ntmps87
  go_wp2_with fail
  have WS : (w.alloc (Obj.cells #[.int .i64 e.id, .int .i64 e.day, .int .i64 e.kind, .string e.item, .int .i64 e.q, .int .i64 e.a, .int .i64 e.r] 44)).heap.size = w.heap.size + 1 := by simp
  generalize w.alloc (Obj.cells #[.int .i64 e.id, .int .i64 e.day, .int .i64 e.kind, .string e.item, .int .i64 e.q, .int .i64 e.a, .int .i64 e.r] 44) = W at *
  replace WS := Lib.hid WS
  have q0 := blk_at Q.out (j := 0) rfl; have q1 := blk_at Q.out (j := 1) rfl; have q2 := blk_at Q.out (j := 2) rfl
  have e3 := (evCells E.out).2.2.2.1
  go_region_held3 (fun w' => w'.cell? ⟨q, 0, none⟩ = some (.slice sA sn sc) ∧ w'.cell? ⟨q, 1, none⟩ = some (.int .i64 k) ∧ w'.cell? ⟨q, 2, none⟩ = some (.slice dA dn dc) ∧ w'.cell? ⟨w.heap.size, 3, none⟩ = some (.string e.item))
    (first
      | go_keep
      | (go_split_ands; exact ⟨cell_keep hb1 q0, cell_keep hb1 q1, cell_keep hb1 q2, cell_keep hb1 e3⟩))
    (first | (go_at_call 53; refine (implShelfOf _ _ _ _ _ _ _ ss _ W.drew (HB.out.shelves.below (Below.refl _ _).drew) (by omega)).mono ?_; rintro e' V ⟨rfl, hb1⟩))
  have B1 := Lib.hid (show Below W.heap.size W V from (Below.refl _ _).drew.trans hb1)
  have QV := Lib.hid (blk_keep B1.out Q.out); have EV := Lib.hid (blk_keep B1.out E.out)
  have BV := Lib.hid (HB.out.below B1.out).top
  have bV := Lib.hid ((b0.out.mono hlo).trans (B1.out.mono (by rw [WS.out]; omega)))
  have kV := Lib.hid ((Keeps.below (q := some q) b0.out).trans (Keeps.below B1.out))
  clear q0 q1 q2 e3 hb1 B1 E Q HB WS b0
  have zV : lo ≤ V.heap.size := Nat.le_trans hlo bV.out.size
  rcases shelfAt_cases ss e.item with ⟨h0, _⟩ | ⟨p, x, h0, hx, he, _⟩
  · have R := Lib.hid (show issOk ss e.item e.q = false by simp [issOk, h0])
    rw [h0]
    clear h0
    go_wp2_with fail
    go_ret2
    rw [R.out]
    exact ⟨_, rfl, (fun h => by cases h), bV.out, kV.out⟩
  · have hpm : p < sn := by rw [← hl.out]; exact (List.getElem?_eq_some_iff.1 hx).1
    have SP := shGet_at h0 hx
    have R := Lib.hid (show issOk ss e.item e.q = issueOk x.lays e.q by simp [issOk, h0, SP])
    have RC := Lib.hid (show issCost ss e.item e.q = issueCost x.lays e.q by simp [issCost, SP])
    have RS := Lib.hid (show issSs ss e.item e.q = ss.set p ⟨x.item, x.ids, issueOut x.lays e.q⟩ by simp [issSs, SP, h0, he])
    have HX := Lib.hid hx
    obtain ⟨sg1, sg2⟩ := SG.out
    rw [SP] at sg1 sg2
    rw [h0]
    clear h0 hx he SP SG
    have q0 := blk_at QV.out (j := 0) rfl
    obtain ⟨us, hus, SO⟩ := BV.out
    have US := Lib.hid hus; clear hus
    obtain ⟨g, rfl, hg1, hg2, ⟨cs, hcs⟩, hgf, s, iA, iC, lA, lC, hs, c0, c1, c2, oi, rl, RELAY, _⟩ := SO.shelf hpm zV
    rw [HX.out] at hs
    obtain rfl := Option.some.inj hs
    have RL := Lib.hid RELAY
    clear hs RELAY
    have i0 : ¬ (p : Int) < 0 := by omega
    have i1 : (0 : Int) ≤ p := by omega
    have i2 : (p : Int) < sn := by omega
    have e4 := (evCells EV.out).2.2.2.2.1
    have ol := issueOut_len x.lays e.q
    cases ha : issueOk x.lays e.q
    all_goals
      have HA := Lib.hid ha; clear ha
      rw [HA.out] at R
      go_wp2_with fail
      go_region_held3 (fun w' => w'.cell? ⟨q, 0, none⟩ = some (.slice (some ⟨g, 0, none⟩) sn sc) ∧ w'.cell? ⟨g, p * 3 + 2, none⟩ = some (.slice lA x.lays.length lC) ∧ w'.cell? ⟨w.heap.size, 4, none⟩ = some (.int .i64 e.q))
        (first
          | go_keep
          | (go_split_ands; exact ⟨cell_keep hb2 q0, cell_keep hb2 c2, cell_keep hb2 e4⟩))
        (first | (go_at_call 116; refine (implIssue _ _ _ x.lays _ V.drew (rl.drewN 1) (by omega)).mono ?_; rw [HA.out]; rintro e' w2 ⟨A2, c2', rfl, o2, hb2⟩))
      have B2 := Lib.hid (show Below V.heap.size V w2 from (Below.refl _ _).drew.trans hb2)
    · go_wp2_with fail
      go_ret2
      rw [R.out]
      exact ⟨_, rfl, (fun h => by cases h), bV.out.trans (B2.out.mono zV), kV.out.trans (Keeps.below B2.out)⟩
    · have Q2 := Lib.hid (blk_keep B2.out QV.out)
      have hcs2 := Lib.hid (blk_keep B2.out hcs)
      obtain ⟨ln, hln⟩ : ∃ ln, ln = (issueOut x.lays e.q).length := ⟨_, rfl⟩
      rw [← hln] at o2 ⊢
      have SO2 := Lib.hid (RL.out w2 A2 ln c2' (issueOut x.lays e.q) B2.out o2).top
      have C2 := cell_keep B2.out c2; have f2 := blk_free hcs2.out; have q02 := cell_keep B2.out q0
      clear c0 c1 c2 e4 q0 o2 hb2 oi rl hln ol
      go_wp2_with fail
      go_ret2
      have K2 := Lib.hid (Keeps.set (q := none) (u := .slice A2 ln c2') (p := ⟨g, p * 3 + 2, none⟩) hcs2.out (by decide) (by decide))
      rw [R.out]
      refine ⟨_, rfl, fun _ => ⟨RC.out.symm, _, sn, sc, dA, dn, dc, K2.out _ _ _ (.inr ⟨rfl, by simp⟩) Q2.out, hlq, us, US.out, ?_⟩, (bV.out.trans (B2.out.mono zV)).setCell (p := ⟨g, p * 3 + 2, none⟩) hg1 _, (kV.out.trans (Keeps.below B2.out)).trans (K2.out.one q)⟩
      rw [RS.out]
      exact SO2.out
def fewCode (b : Bool) : Int := if b then 0 else 2
theorem fewCode_yes : fewCode true = 0 := rfl
theorem fewCode_no : fewCode false = 2 := rfl
set_option maxRecDepth 100000 in
set_option maxHeartbeats 8000000 in
theorem specIssueBk (lo hi2 : Nat) (sA : Option Addr) (sn sc : Nat) (k : Int) (dA : Option Addr) (dn dc : Nat) (ss : List Shf) (ds : List Doc) (e : Ev) (w : World) (hbk : BooksO w lo hi2 (.slice sA sn sc) sn ss (.slice dA dn dc) dn ds) (hlo : lo ≤ w.heap.size) (hss : shsOk ss = true) :
    Calls Try.prog 81 #[.agg #[.slice sA sn sc, .int .i64 k, .slice dA dn dc], evAgg e] w fun r w' => ∃ A n c D m d y, r = .returned (.tuple #[.agg #[.slice A n c, .int .i64 k, .slice D m d], .int .i64 y, .int .i64 (fewCode (issOk ss e.item e.q))]) ∧
      (issOk ss e.item e.q = true → y = issCost ss e.item e.q ∧ BooksO w' lo w'.heap.size (.slice A n c) n (issSs ss e.item e.q) (.slice D m d) m ds) ∧ Below lo w w' ∧ Keeps none w w' := by
  have hl := Lib.hid hbk.shelves.len
  have n12 : sn ≤ 12 := by rw [← hl.out]; exact shsOk_len hss
  have SG := Lib.hid (shGood_lays hss e.item)
  have b0 := Lib.hid (below_then (below_then (below_box w (Obj.cells #[.slice sA sn sc, .int .i64 k, .slice dA dn dc] 31)) (below_box _ (Obj.cells #[.int .i64 e.id, .int .i64 e.day, .int .i64 e.kind, .string e.item, .int .i64 e.q, .int .i64 e.a, .int .i64 e.r] 44))) (below_box _ (Obj.cells #[.slice none 0 0, .int .i64 0, .slice none 0 0] 31)))
  have Q := Lib.hid (blk_alloc (blk_alloc (blk_new1 w (Obj.cells #[.slice sA sn sc, .int .i64 k, .slice dA dn dc] 31)) (Obj.cells #[.int .i64 e.id, .int .i64 e.day, .int .i64 e.kind, .string e.item, .int .i64 e.q, .int .i64 e.a, .int .i64 e.r] 44)) (Obj.cells #[.slice none 0 0, .int .i64 0, .slice none 0 0] 31))
  have E := Lib.hid (blk_alloc (blk_new2 w (Obj.cells #[.slice sA sn sc, .int .i64 k, .slice dA dn dc] 31) (Obj.cells #[.int .i64 e.id, .int .i64 e.day, .int .i64 e.kind, .string e.item, .int .i64 e.q, .int .i64 e.a, .int .i64 e.r] 44)) (Obj.cells #[.slice none 0 0, .int .i64 0, .slice none 0 0] 31))
  have Z := Lib.hid (blk_new3 w (Obj.cells #[.slice sA sn sc, .int .i64 k, .slice dA dn dc] 31) (Obj.cells #[.int .i64 e.id, .int .i64 e.day, .int .i64 e.kind, .string e.item, .int .i64 e.q, .int .i64 e.a, .int .i64 e.r] 44) (Obj.cells #[.slice none 0 0, .int .i64 0, .slice none 0 0] 31))
  have HB := Lib.hid (hbk.below b0.out)
  clear hbk
  go_enter Try.func81, Try.ntmps81
  go_wp2_with fail
  have WS : (((w.alloc (Obj.cells #[.slice sA sn sc, .int .i64 k, .slice dA dn dc] 31)).alloc (Obj.cells #[.int .i64 e.id, .int .i64 e.day, .int .i64 e.kind, .string e.item, .int .i64 e.q, .int .i64 e.a, .int .i64 e.r] 44)).alloc (Obj.cells #[.slice none 0 0, .int .i64 0, .slice none 0 0] 31)).heap.size = w.heap.size + 1 + 1 + 1 := by simp
  generalize ((w.alloc (Obj.cells #[.slice sA sn sc, .int .i64 k, .slice dA dn dc] 31)).alloc (Obj.cells #[.int .i64 e.id, .int .i64 e.day, .int .i64 e.kind, .string e.item, .int .i64 e.q, .int .i64 e.a, .int .i64 e.r] 44)).alloc (Obj.cells #[.slice none 0 0, .int .i64 0, .slice none 0 0] 31) = W at *
  replace WS := Lib.hid WS
  refine (specShelfOf _ _ _ _ _ _ _ ss _ W HB.out.shelves (by omega)).mono ?_; rintro e' V ⟨rfl, B1⟩
  have QV := Lib.hid (blk_keep B1 Q.out); have EV := Lib.hid (blk_keep B1 E.out); have ZV := Lib.hid (blk_keep B1 Z.out)
  have BV := Lib.hid (HB.out.below B1).top
  have bV := Lib.hid ((b0.out.mono hlo).trans (B1.mono (by rw [WS.out]; omega)))
  have kV := Lib.hid ((Keeps.below (q := some w.heap.size) b0.out).trans (Keeps.below B1))
  clear B1 E Q Z HB WS b0
  have zV : lo ≤ V.heap.size := Nat.le_trans hlo bV.out.size
  rcases shelfAt_cases ss e.item with ⟨h0, _⟩ | ⟨p, x, h0, hx, he, _⟩
  · have R := Lib.hid (show issOk ss e.item e.q = false by simp [issOk, h0])
    rw [h0]
    clear h0
    have QF := QV; have ZF := ZV
    have z0 := blk_at ZF.out (j := 0) rfl; have z1 := blk_at ZF.out (j := 1) rfl; have z2 := blk_at ZF.out (j := 2) rfl; have zf := blk_free ZF.out
    have x0 := blk_at QF.out (j := 0) rfl; have x1 := blk_at QF.out (j := 1) rfl; have x2 := blk_at QF.out (j := 2) rfl
    go_wp2_with fail
    rw [R.out]
    refine bodyPost_ret (v := .tuple #[.agg #[.slice sA sn sc, .int .i64 k, .slice dA dn dc], .int .i64 0, .int .i64 2]) (by simp [results, Try.results81, go_sem, z0, z1, z2]) rfl ⟨_, sn, sc, dA, dn, dc, _, rfl, (fun h => by cases h), below_out3 bV.out (by omega) _ _ _, Keeps.fresh3 kV.out (Nat.le_refl _) (below_out3 (Below.refl _ _) (by omega) _ _ _)⟩
  · have hpm : p < sn := by rw [← hl.out]; exact (List.getElem?_eq_some_iff.1 hx).1
    have SP := shGet_at h0 hx
    have R := Lib.hid (show issOk ss e.item e.q = issueOk x.lays e.q by simp [issOk, h0, SP])
    have RC := Lib.hid (show issCost ss e.item e.q = issueCost x.lays e.q by simp [issCost, SP])
    have RS := Lib.hid (show issSs ss e.item e.q = ss.set p ⟨x.item, x.ids, issueOut x.lays e.q⟩ by simp [issSs, SP, h0, he])
    have HX := Lib.hid hx
    obtain ⟨sg1, sg2⟩ := SG.out
    rw [SP] at sg1 sg2
    rw [h0]
    clear h0 hx he SP SG
    have q0 := blk_at QV.out (j := 0) rfl
    obtain ⟨us, hus, SO⟩ := BV.out
    have US := Lib.hid hus; clear hus
    obtain ⟨g, rfl, hg1, hg2, ⟨cs, hcs⟩, hgf, s, iA, iC, lA, lC, hs, c0, c1, c2, oi, rl, RELAY, _⟩ := SO.shelf hpm zV
    rw [HX.out] at hs
    obtain rfl := Option.some.inj hs
    have RL := Lib.hid RELAY
    clear hs RELAY
    have i0 : ¬ (p : Int) < 0 := by omega
    have i1 : (0 : Int) ≤ p := by omega
    have i2 : (p : Int) < sn := by omega
    have e4 := (evCells EV.out).2.2.2.2.1
    have ol := issueOut_len x.lays e.q
    cases ha : issueOk x.lays e.q
    all_goals
      have HA := Lib.hid ha; clear ha
      rw [HA.out] at R
      go_wp2_with fail
      go_region_held3 (fun w' => w'.cell? ⟨w.heap.size, 0, none⟩ = some (.slice (some ⟨g, 0, none⟩) sn sc) ∧ w'.cell? ⟨g, p * 3 + 2, none⟩ = some (.slice lA x.lays.length lC) ∧ w'.cell? ⟨w.heap.size + 1, 4, none⟩ = some (.int .i64 e.q))
        (first
          | go_keep
          | (go_split_ands; exact ⟨cell_keep hb2 q0, cell_keep hb2 c2, cell_keep hb2 e4⟩))
        (first | (go_at_call 113; refine (specIssue _ _ _ x.lays _ V.drew (rl.drewN 1) (by omega)).mono ?_; rw [HA.out]; rintro e' w2 ⟨A2, c2', rfl, o2, hb2⟩))
      have B2 := Lib.hid (show Below V.heap.size V w2 from (Below.refl _ _).drew.trans hb2)
      have b2 := Lib.hid (bV.out.trans (B2.out.mono zV)); have k2 := Lib.hid (kV.out.trans (Keeps.below B2.out))
      have Q2 := Lib.hid (blk_keep B2.out QV.out); have Z2 := Lib.hid (blk_keep B2.out ZV.out)
    · have QF := Q2; have ZF := Z2
      clear c0 c1 c2 e4 q0 o2 hb2 oi rl
      have z0 := blk_at ZF.out (j := 0) rfl; have z1 := blk_at ZF.out (j := 1) rfl; have z2 := blk_at ZF.out (j := 2) rfl; have zf := blk_free ZF.out
      have x0 := blk_at QF.out (j := 0) rfl; have x1 := blk_at QF.out (j := 1) rfl; have x2 := blk_at QF.out (j := 2) rfl
      go_wp2_with fail
      rw [R.out]
      refine bodyPost_ret (v := .tuple #[.agg #[.slice (some ⟨g, 0, none⟩) sn sc, .int .i64 k, .slice dA dn dc], .int .i64 0, .int .i64 2]) (by simp [results, Try.results81, go_sem, z0, z1, z2]) rfl ⟨_, sn, sc, dA, dn, dc, _, rfl, (fun h => by cases h), below_out3 b2.out (by omega) _ _ _, Keeps.fresh3 k2.out (Nat.le_refl _) (below_out3 (Below.refl _ _) (by omega) _ _ _)⟩
    · have hcs2 := Lib.hid (blk_keep B2.out hcs)
      obtain ⟨ln, hln⟩ : ∃ ln, ln = (issueOut x.lays e.q).length := ⟨_, rfl⟩
      rw [← hln] at o2 ⊢
      have SO2 := Lib.hid (RL.out w2 A2 ln c2' (issueOut x.lays e.q) B2.out o2).top
      have C2 := cell_keep B2.out c2; have f2 := blk_free hcs2.out; have q02 := cell_keep B2.out q0
      clear c0 c1 c2 e4 q0 o2 hb2 oi rl hln ol
      have K2 := Lib.hid (Keeps.set (q := none) (u := .slice A2 ln c2') (p := ⟨g, p * 3 + 2, none⟩) hcs2.out (by decide) (by decide))
      have QF := Lib.hid (K2.out _ _ _ (.inr ⟨rfl, by simp⟩) Q2.out); have ZF := Lib.hid (K2.out _ _ _ (.inr ⟨rfl, by simp⟩) Z2.out)
      have bF := Lib.hid (b2.out.setCell (p := ⟨g, p * 3 + 2, none⟩) hg1 (.slice A2 ln c2'))
      have kF := Lib.hid (k2.out.trans (K2.out.one w.heap.size))
      have z0 := blk_at ZF.out (j := 0) rfl; have z1 := blk_at ZF.out (j := 1) rfl; have z2 := blk_at ZF.out (j := 2) rfl; have zf := blk_free ZF.out
      have x0 := blk_at QF.out (j := 0) rfl; have x1 := blk_at QF.out (j := 1) rfl; have x2 := blk_at QF.out (j := 2) rfl
      go_wp2_with fail
      rw [R.out]
      refine bodyPost_ret (v := .tuple #[.agg #[.slice (some ⟨g, 0, none⟩) sn sc, .int .i64 k, .slice dA dn dc], .int .i64 (issueCost x.lays e.q), .int .i64 0]) (by simp [results, Try.results81, go_sem, z0, z1, z2]) rfl ⟨_, sn, sc, dA, dn, dc, _, rfl, fun _ => ⟨RC.out.symm, ?_⟩, below_out3 bF.out (by omega) _ _ _, Keeps.fresh3 kF.out (Nat.le_refl _) (below_out3 (Below.refl _ _) (by omega) _ _ _)⟩
      rw [RS.out]
      exact (BooksO.out3 ⟨us, US.out, SO2.out⟩ ZF.out _ _ _).top
end Go.Proofs.Ytlgodbjbllpipaa
namespace Go.Proofs.Ytlgodbjbllpipaa
open Go.ChangeShapes Go.WideShapes Go.ChangeAt Go.RowKit

theorem late_none {ss : List Shf} {item : ByteArray} (h : shelfAt ss item = -1) (r a : Int) : lateCode ss item r a = 4 := by simp [lateCode, lateIx, h]
theorem late_at {ss : List Shf} {item : ByteArray} {p : Nat} {x : Shf} (h : shelfAt ss item = p) (hx : ss[p]? = some x) (r : Int) : lateIx ss item r = lastTo x.ids r x.ids.length := by
  rw [lateIx, if_neg (by omega), shGet_at h hx]
set_option maxRecDepth 100000 in
set_option maxHeartbeats 8000000 in
theorem implLateBk (lo q : Nat) (ss : List Shf) (k : Int) (ds : List Doc) (e : Ev) (w : World) (h : BkO w lo q ss k ds) (hlo : lo ≤ w.heap.size) (hss : shsOk ss = true) :
    Calls Try.prog 88 #[.pointer (some ⟨q, 0, none⟩), evAgg e] w fun r w' => ∃ c, r = .returned (.tuple #[.int .i64 c, .int .i64 (lateCode ss e.item e.r e.a)]) ∧ (lateCode ss e.item e.r e.a = 0 → c = lateCost ss e.item e.r e.a ∧ BkO w' lo q (lateSs ss e.item e.r e.a) k ds) ∧ Below lo w w' ∧ Keeps (some q) w w' := by
  obtain ⟨sA, sn, sc, dA, dn, dc, hq, hlq, hbk⟩ := h
  have hl := Lib.hid hbk.shelves.len
  have n12 : sn ≤ 12 := by rw [← hl.out]; exact shsOk_len hss
  have SG := Lib.hid (shGood_lays hss e.item)
  have qs : q < w.heap.size := (Array.getElem?_eq_some_iff.1 hq).1
  have b0 := Lib.hid (below_box w (Obj.cells #[.int .i64 e.id, .int .i64 e.day, .int .i64 e.kind, .string e.item, .int .i64 e.q, .int .i64 e.a, .int .i64 e.r] 44))
  have E := Lib.hid (blk_new1 w (Obj.cells #[.int .i64 e.id, .int .i64 e.day, .int .i64 e.kind, .string e.item, .int .i64 e.q, .int .i64 e.a, .int .i64 e.r] 44))
  have Q := Lib.hid (blk_keep b0.out hq)
  have HB := Lib.hid (hbk.below b0.out)
  clear hq hbk
  go_enter Try.func88, Try.ntmps88
  go_wp2_with fail
  have WS : (w.alloc (Obj.cells #[.int .i64 e.id, .int .i64 e.day, .int .i64 e.kind, .string e.item, .int .i64 e.q, .int .i64 e.a, .int .i64 e.r] 44)).heap.size = w.heap.size + 1 := by simp
  generalize w.alloc (Obj.cells #[.int .i64 e.id, .int .i64 e.day, .int .i64 e.kind, .string e.item, .int .i64 e.q, .int .i64 e.a, .int .i64 e.r] 44) = W at *
  replace WS := Lib.hid WS
  have q0 := blk_at Q.out (j := 0) rfl; have q1 := blk_at Q.out (j := 1) rfl; have q2 := blk_at Q.out (j := 2) rfl
  have e3 := (evCells E.out).2.2.2.1
  go_region_held3 (fun w' => w'.cell? ⟨q, 0, none⟩ = some (.slice sA sn sc) ∧ w'.cell? ⟨q, 1, none⟩ = some (.int .i64 k) ∧ w'.cell? ⟨q, 2, none⟩ = some (.slice dA dn dc) ∧ w'.cell? ⟨w.heap.size, 3, none⟩ = some (.string e.item))
    (first
      | go_keep
      | (go_split_ands; exact ⟨cell_keep hb1 q0, cell_keep hb1 q1, cell_keep hb1 q2, cell_keep hb1 e3⟩))
    (first | (go_at_call 53; refine (implShelfOf _ _ _ _ _ _ _ ss _ W.drew (HB.out.shelves.below (Below.refl _ _).drew) (by omega)).mono ?_; rintro e' V ⟨rfl, hb1⟩))
  have B1 := Lib.hid (show Below W.heap.size W V from (Below.refl _ _).drew.trans hb1)
  have QV := Lib.hid (blk_keep B1.out Q.out); have EV := Lib.hid (blk_keep B1.out E.out)
  have BV := Lib.hid (HB.out.below B1.out).top
  have bV := Lib.hid ((b0.out.mono hlo).trans (B1.out.mono (by rw [WS.out]; omega)))
  have kV := Lib.hid ((Keeps.below (q := some q) b0.out).trans (Keeps.below B1.out))
  clear q0 q1 q2 e3 hb1 B1 E Q HB WS b0
  have zV : lo ≤ V.heap.size := Nat.le_trans hlo bV.out.size
  rcases shelfAt_cases ss e.item with ⟨h0, _⟩ | ⟨p, x, h0, hx, he, _⟩
  · have R := Lib.hid (late_none h0 e.r e.a)
    rw [h0]
    clear h0
    go_wp2_with fail
    go_ret2
    rw [R.out]
    exact ⟨_, rfl, (fun h => by cases h), bV.out, kV.out⟩
  · have hpm : p < sn := by rw [← hl.out]; exact (List.getElem?_eq_some_iff.1 hx).1
    have SP := shGet_at h0 hx
    have IX := Lib.hid (late_at h0 hx e.r)
    have R := Lib.hid (show lateCode ss e.item e.r e.a = if lastTo x.ids e.r x.ids.length < 0 then 4 else if lateOk x.lays (lastTo x.ids e.r x.ids.length) e.a then 0 else 2 by rw [lateCode, IX.out, SP])
    have RC := Lib.hid (show lateCost ss e.item e.r e.a = lateGone x.lays (lastTo x.ids e.r x.ids.length) e.a by rw [lateCost, IX.out, SP])
    have RSS := Lib.hid (show lateSs ss e.item e.r e.a = ss.set p ⟨x.item, x.ids, lateOut x.lays (lastTo x.ids e.r x.ids.length) e.a⟩ by rw [lateSs, IX.out, SP, h0, ← he]; rfl)
    have HX := Lib.hid hx
    obtain ⟨sg1, sg2⟩ := SG.out
    rw [SP] at sg1 sg2
    rw [h0]
    clear h0 hx he SP SG IX
    have q0 := blk_at QV.out (j := 0) rfl
    obtain ⟨us, hus, SO⟩ := BV.out
    have US := Lib.hid hus; clear hus
    obtain ⟨g, rfl, hg1, hg2, ⟨cs, hcs⟩, hgf, s, iA, iC, lA, lC, hs, c0, c1, c2, oi, rl, RELAY, _⟩ := SO.shelf hpm zV
    rw [HX.out] at hs
    obtain rfl := Option.some.inj hs
    have RL := Lib.hid RELAY
    clear hs RELAY
    have i0 : ¬ (p : Int) < 0 := by omega
    have i1 : (0 : Int) ≤ p := by omega
    have i2 : (p : Int) < sn := by omega
    have ri := RS.of_own oi
    obtain ⟨n, hn⟩ : ∃ n, n = x.ids.length := ⟨_, rfl⟩
    rw [← hn] at c1 ri R RC RSS sg2
    have HN := Lib.hid hn
    clear hn
    go_wp2_with fail
    go_loopw [8, 33] (fun t i wr => ∃ j : Nat, j ≤ n ∧ i = .int .i64 j ∧ t = .int .i64 (lastTo x.ids e.r j) ∧ Below V.heap.size V wr) (fun _ i _ => n - (intOf i).toNat)
    case atStart => exact ⟨0, Nat.zero_le _, rfl, rfl, Below.refl _ _⟩
    case round =>
      obtain ⟨j, hj, rfl, rfl, hb⟩ := hrel
      by_cases hlt : j < n
      · obtain ⟨g2, off2, hA, y, hy, cy⟩ := (ri.below hb).intAt hlt
        subst hA
        have HY := Lib.hid hy; clear hy
        have e6 := (evCells (blk_keep hb EV.out)).2.2.2.2.2.2
        by_cases hr : y = e.r
        · have HH := Lib.hid (lastTo_hit HY.out hr)
          subst hr
          go_wp2_with fail
          go_roundw
          case rel => exact ⟨j + 1, by omega, by go_num, by rw [HH.out], hb⟩
          case measure => simp [intOf]; omega
        · have HH := Lib.hid (lastTo_miss HY.out hr)
          go_wp2_with fail
          go_roundw
          case rel => exact ⟨j + 1, by omega, by go_num, by rw [HH.out], hb⟩
          case measure => simp [intOf]; omega
      · obtain rfl : n = j := by omega
        have bd := lastTo_bd x.ids e.r n
        obtain ⟨ix, hix⟩ : ∃ ix, ix = lastTo x.ids e.r n := ⟨_, rfl⟩
        rw [← hix] at R RC RSS bd ⊢
        clear hix
        obtain ⟨bd1, bd2⟩ := bd
        by_cases hneg : ix < 0
        · rw [if_pos hneg] at R
          go_wp2_with fail
          go_ret2
          rw [R.out]
          exact ⟨_, rfl, (fun h => by cases h), bV.out.trans (hb.mono zV), kV.out.trans (Keeps.below hb)⟩
        · rw [if_neg hneg] at R
          have Qr := Lib.hid (blk_keep hb QV.out)
          have c2 := cell_keep hb c2
          have e5 := (evCells (blk_keep hb EV.out)).2.2.2.2.2.1
          have rl := rl.below hb
          have zr := hb.size
          cases ha : lateOk x.lays ix e.a
          all_goals
            have HA := Lib.hid ha; clear ha
            rw [HA.out] at R
            go_wp2_with fail
            go_region_held3 (fun w' => w'.cell? ⟨g, p * 3 + 2, none⟩ = some (.slice lA x.lays.length lC) ∧ w'.cell? ⟨w.heap.size, 5, none⟩ = some (.int .i64 e.a))
              (first
                | go_keep
                | (go_split_ands; exact ⟨cell_keep hb2 c2, cell_keep hb2 e5⟩))
              (first | (go_at_call 117; refine (implAddLate _ _ _ x.lays _ _ wr.drew (rl.drewN 1) (by omega)).mono ?_; rw [HA.out]; rintro e' w2 ⟨A2, c2', rfl, o2, hb2⟩))
            have B2 := Lib.hid (show Below V.heap.size V w2 from hb.trans ((Below.refl _ _).drew.trans (hb2.mono zr)))
          · go_wp2_with fail
            go_ret2
            rw [R.out]
            exact ⟨_, rfl, (fun h => by cases h), bV.out.trans (B2.out.mono zV), kV.out.trans (Keeps.below B2.out)⟩
          · have Q2 := Lib.hid (blk_keep B2.out QV.out)
            have hcs2 := Lib.hid (blk_keep B2.out hcs)
            obtain ⟨ln, hln⟩ : ∃ ln, ln = (lateOut x.lays ix e.a).length := ⟨_, rfl⟩
            rw [← hln] at o2 ⊢
            have SO2 := Lib.hid (RL.out w2 A2 ln c2' (lateOut x.lays ix e.a) B2.out (own_base o2 zr)).top
            have C2 := cell_keep hb2 c2; have f2 := blk_free hcs2.out
            clear c0 c1 c2 e5 q0 o2 hb2 oi rl hln
            go_wp2_with fail
            go_ret2
            have K2 := Lib.hid (Keeps.set (q := none) (u := .slice A2 ln c2') (p := ⟨g, p * 3 + 2, none⟩) hcs2.out (by decide) (by decide))
            rw [R.out]
            refine ⟨_, rfl, fun _ => ⟨RC.out.symm, _, sn, sc, dA, dn, dc, K2.out _ _ _ (.inr ⟨rfl, by simp⟩) Q2.out, hlq, us, US.out, ?_⟩, (bV.out.trans (B2.out.mono zV)).setCell (p := ⟨g, p * 3 + 2, none⟩) hg1 _, (kV.out.trans (Keeps.below B2.out)).trans (K2.out.one q)⟩
            rw [RSS.out]
            exact SO2.out
end Go.Proofs.Ytlgodbjbllpipaa
namespace Go.Proofs.Ytlgodbjbllpipaa
open Go.ChangeShapes Go.WideShapes Go.ChangeAt Go.RowKit

theorem isEvent_ways {e : Ev} (h : isEvent e = true) : (e.kind = 1 ∧ 1 ≤ e.a ∧ e.a ≤ 100000) ∨ (e.kind = 3 ∧ 1 ≤ e.a ∧ e.a ≤ 100000) ∨ (e.kind = 2 ∧ e.a = 0) ∨ (e.kind = 4 ∧ 1 ≤ e.a ∧ e.a ≤ 100000) ∨ (e.kind = 5 ∧ -100000 ≤ e.a ∧ e.a ≤ 100000) := by
  simp only [isEvent, Bool.and_eq_true] at h
  obtain ⟨_, _, _, h⟩ := h
  split at h
  · next hk =>
    simp only [Bool.and_eq_true] at h
    have := inB_true.1 h.2.1
    omega
  · split at h
    · next hk =>
      simp only [Bool.and_eq_true, beq_iff_eq] at h
      omega
    · split at h
      · next hk =>
        simp only [Bool.and_eq_true] at h
        have := inB_true.1 h.2.1
        omega
      · cases h
theorem BkO.below {w w' : World} {lo q : Nat} {ss : List Shf} {k : Int} {ds : List Doc} (h : BkO w lo q ss k ds) (hb : Below w.heap.size w w') : BkO w' lo q ss k ds :=
  let ⟨sA, sn, sc, dA, dn, dc, hq, hlq, hbk⟩ := h; ⟨sA, sn, sc, dA, dn, dc, blk_keep hb hq, hlq, (hbk.below hb).top⟩
theorem BkO.setk {w : World} {lo q : Nat} {ss : List Shf} {k : Int} {ds : List Doc} (h : BkO w lo q ss k ds) (k' : Int) : BkO (w.setCell ⟨q, 1, none⟩ (.int .i64 k')) lo q ss k' ds :=
  let ⟨sA, sn, sc, dA, dn, dc, hq, hlq, hbk⟩ := h; ⟨sA, sn, sc, dA, dn, dc, heap_setCell_same w q 1 _ _ (.int .i64 k') hq, hlq, (hbk.setq hq rfl).top⟩
theorem BkO.work {w : World} {lo q : Nat} {ss : List Shf} {k : Int} {ds : List Doc} (h : BkO w lo q ss k ds) : w.cell? ⟨q, 1, none⟩ = some (.int .i64 k) ∧ (∀ j, w.frozen? ⟨q, j, none⟩ = false) ∧ lo ≤ q ∧ q < w.heap.size ∧ ∃ cs, w.heap[q]? = some (.cells cs 31 (0, 0)) :=
  let ⟨_, _, _, _, _, _, hq, hlq, _⟩ := h; ⟨blk_at hq rfl, blk_free hq, hlq, (Array.getElem?_eq_some_iff.1 hq).1, _, hq⟩
theorem below_grownq {w w' : World} {lo q : Nat} (hg : w.grownBy w' (some q)) (hlo : lo ≤ w.heap.size) (hq : lo ≤ q) : Below lo w w' :=
  (Below.refl _ _).grown hg hlo fun k hk => by injection hk with hk; omega
theorem names_small {es : List En} (h : ∀ x ∈ es, x.acc.size ≤ 6) : ∀ x ∈ es, x.acc.size ≤ 9223372036854775807 := fun x hx => Nat.le_trans (h x hx) (by omega)

theorem t_sizes : tStock.size ≤ 9223372036854775807 ∧ tSupply.size ≤ 9223372036854775807 ∧ tWork.size ≤ 9223372036854775807 ∧ tCash.size ≤ 9223372036854775807 ∧ tSales.size ≤ 9223372036854775807 ∧ tCost.size ≤ 9223372036854775807 := by decide
theorem buyE_small (e : Ev) : ∀ x ∈ buyE e, x.acc.size ≤ 9223372036854775807 := by simp [buyE, t_sizes]
theorem makeE_small (e : Ev) : ∀ x ∈ makeE e, x.acc.size ≤ 9223372036854775807 := by simp [makeE, t_sizes]
theorem issE_small (c : Int) : ∀ x ∈ issE c, x.acc.size ≤ 9223372036854775807 := by simp [issE, t_sizes]
theorem sellE_small (e : Ev) (c : Int) : ∀ x ∈ sellE e c, x.acc.size ≤ 9223372036854775807 := by simp [sellE, t_sizes]
theorem lateE_small (e : Ev) (c : Int) : ∀ x ∈ lateE e c, x.acc.size ≤ 9223372036854775807 := by simp [lateE, t_sizes]
set_option maxRecDepth 100000 in
set_option maxHeartbeats 8000000 in
theorem implBookBuy (lo q : Nat) (b : Bk) (e : Ev) (w : World) (h : BkO w lo q b.ss b.k b.ds) (hlo : lo ≤ w.heap.size) (hss : shsOk b.ss = true) (hok : docsSmall b.ds) (hdn : b.ds.length ≤ 1048576) (hwk : 0 ≤ b.k ∧ b.k ≤ 1000000000) (hk : e.kind = 1) (ha1 : 1 ≤ e.a) (ha2 : e.a ≤ 100000) :
    Calls Try.prog 60 #[.pointer (some ⟨q, 0, none⟩), evAgg e] w fun r w' => r = .returned (.int .i64 (bookBuy b e).1) ∧ ((bookBuy b e).1 = 0 → BkO w' lo q (bookBuy b e).2.ss (bookBuy b e).2.k (bookBuy b e).2.ds) ∧ Below lo w w' := by
  obtain ⟨ss, k, ds⟩ := b
  simp only at h hss hok hdn hwk
  obtain ⟨hwk1, hwk2⟩ := hwk
  obtain ⟨id, day, kind, item, eq, ea, er⟩ := e
  simp only at hk ha1 ha2
  subst hk
  obtain ⟨qk, qf, hlq, hqs, cs, hqb⟩ := h.work
  have b0 := Lib.hid (below_box w (Obj.cells #[.int .i64 id, .int .i64 day, .int .i64 1, .string item, .int .i64 eq, .int .i64 ea, .int .i64 er] 44))
  have E := Lib.hid (blk_new1 w (Obj.cells #[.int .i64 id, .int .i64 day, .int .i64 1, .string item, .int .i64 eq, .int .i64 ea, .int .i64 er] 44))
  have HB := Lib.hid (h.below b0.out)
  have OK := Lib.hid hok
  have zW : lo ≤ (w.alloc (Obj.cells #[.int .i64 id, .int .i64 day, .int .i64 1, .string item, .int .i64 eq, .int .i64 ea, .int .i64 er] 44)).heap.size := Nat.le_trans hlo b0.out.size
  clear h qk qf hqb cs hok
  go_enter Try.func60, Try.ntmps60
  have B0 := Lib.hid (b0.out.mono hlo); have B0z := zW
  cases hr : recvOk ss item eq ea
  · have HR := Lib.hid hr; clear hr
    have R := Lib.hid (show (bookBuy ⟨ss, k, ds⟩ ⟨id, day, 1, item, eq, ea, er⟩).1 = 3 by simp [bookBuy, HR.out])
    go_wp2_with fail
    refine (implReceiveBk lo q ss (k) ds ⟨id, day, 1, item, eq, ea, er⟩ _ HB.out B0z hss).mono ?_; rw [HR.out]; rintro r w1 ⟨rfl, _, hb1, _⟩
    have B1 := Lib.hid (B0.out.trans hb1)
    go_wp2_with fail
    go_ret
    rw [R.out]
    exact ⟨rfl, (fun h => by cases h), B1.out⟩
  · have HR := Lib.hid hr; clear hr
    go_wp2_with fail
    refine (implReceiveBk lo q ss (k) ds ⟨id, day, 1, item, eq, ea, er⟩ _ HB.out B0z hss).mono ?_; rw [HR.out]; rintro r w1 ⟨rfl, h1, hb1, hk1⟩
    have H1 := Lib.hid (h1 rfl); have E1 := Lib.hid (hk1 _ _ _ (.inl rfl) E.out); have B1 := Lib.hid (B0.out.trans hb1); have B1z : lo ≤ w1.heap.size := Nat.le_trans B0z hb1.size
    clear h1 hb1 hk1
    have ec := evCells (e := ⟨id, day, 1, item, eq, ea, er⟩) E1.out; obtain ⟨c0, c1, c2, c3, c4, c5, c6⟩ := ec; simp only at c0 c1 c2 c3 c4 c5 c6
    cases hp : bkPostOk ds day (buyE ⟨id, day, 1, item, eq, ea, er⟩)
    · have HP := Lib.hid hp; clear hp
      have R := Lib.hid (show (bookBuy ⟨ss, k, ds⟩ ⟨id, day, 1, item, eq, ea, er⟩).1 = 3 by simp [bookBuy, HR.out, postB, HP.out])
      go_wp2_with fail
      refine (implPostBk lo q (recvSs ss item eq ea id) (k) ds day _ 2 2 (buyE ⟨id, day, 1, item, eq, ea, er⟩) _ (H1.out.below (below_box _ _)) (Nat.le_trans B1z (below_box _ _).size) OK.out hdn (RS_new (by rfl)) (by omega) (buyE_small _)).mono ?_; rw [HP.out]; rintro r w5 ⟨rfl, h5, g5⟩
      have B5 := Lib.hid (B1.out.trans ((below_box _ _).mono B1z |>.trans (below_grownq g5 (Nat.le_trans B1z (below_box _ _).size) hlq)))
      clear h5 g5
      go_wp2_with fail
      go_ret
      rw [R.out]
      exact ⟨rfl, (fun h => by cases h), B5.out⟩
    · have HP := Lib.hid hp; clear hp
      have R := Lib.hid (show bookBuy ⟨ss, k, ds⟩ ⟨id, day, 1, item, eq, ea, er⟩ = (0, ⟨recvSs ss item eq ea id, k, bkPostDs ds day (buyE ⟨id, day, 1, item, eq, ea, er⟩)⟩) by simp [bookBuy, HR.out, postB, HP.out])
      go_wp2_with fail
      refine (implPostBk lo q (recvSs ss item eq ea id) (k) ds day _ 2 2 (buyE ⟨id, day, 1, item, eq, ea, er⟩) _ (H1.out.below (below_box _ _)) (Nat.le_trans B1z (below_box _ _).size) OK.out hdn (RS_new (by rfl)) (by omega) (buyE_small _)).mono ?_; rw [HP.out]; rintro r w5 ⟨rfl, h5, g5⟩
      have B5 := Lib.hid (B1.out.trans ((below_box _ _).mono B1z |>.trans (below_grownq g5 (Nat.le_trans B1z (below_box _ _).size) hlq)))
      have H5 := Lib.hid (h5 rfl)
      clear h5 g5
      go_wp2_with fail
      go_ret
      rw [R.out]
      exact ⟨rfl, fun _ => H5.out, B5.out⟩
set_option maxRecDepth 100000 in
set_option maxHeartbeats 8000000 in
theorem implBookMake (lo q : Nat) (b : Bk) (e : Ev) (w : World) (h : BkO w lo q b.ss b.k b.ds) (hlo : lo ≤ w.heap.size) (hss : shsOk b.ss = true) (hok : docsSmall b.ds) (hdn : b.ds.length ≤ 1048576) (hwk : 0 ≤ b.k ∧ b.k ≤ 1000000000) (hk : e.kind = 3) (ha1 : 1 ≤ e.a) (ha2 : e.a ≤ 100000) :
    Calls Try.prog 60 #[.pointer (some ⟨q, 0, none⟩), evAgg e] w fun r w' => r = .returned (.int .i64 (bookMake b e).1) ∧ ((bookMake b e).1 = 0 → BkO w' lo q (bookMake b e).2.ss (bookMake b e).2.k (bookMake b e).2.ds) ∧ Below lo w w' := by
  obtain ⟨ss, k, ds⟩ := b
  simp only at h hss hok hdn hwk
  obtain ⟨hwk1, hwk2⟩ := hwk
  obtain ⟨id, day, kind, item, eq, ea, er⟩ := e
  simp only at hk ha1 ha2
  subst hk
  obtain ⟨qk, qf, hlq, hqs, cs, hqb⟩ := h.work
  have b0 := Lib.hid (below_box w (Obj.cells #[.int .i64 id, .int .i64 day, .int .i64 3, .string item, .int .i64 eq, .int .i64 ea, .int .i64 er] 44))
  have E := Lib.hid (blk_new1 w (Obj.cells #[.int .i64 id, .int .i64 day, .int .i64 3, .string item, .int .i64 eq, .int .i64 ea, .int .i64 er] 44))
  have HB := Lib.hid (h.below b0.out)
  have OK := Lib.hid hok
  have zW : lo ≤ (w.alloc (Obj.cells #[.int .i64 id, .int .i64 day, .int .i64 3, .string item, .int .i64 eq, .int .i64 ea, .int .i64 er] 44)).heap.size := Nat.le_trans hlo b0.out.size
  clear h qk qf hqb cs hok
  have B0 := Lib.hid (b0.out.mono hlo)
  obtain ⟨W, hW⟩ : ∃ W, W = (w.alloc (Obj.cells #[.int .i64 id, .int .i64 day, .int .i64 3, .string item, .int .i64 eq, .int .i64 ea, .int .i64 er] 44)) := ⟨_, rfl⟩
  rw [← hW] at b0 E HB B0 zW
  have q1 := HB.out.work.1
  have c5 := (evCells (e := ⟨id, day, 3, item, eq, ea, er⟩) E.out).2.2.2.2.2.1
  simp only at c5
  by_cases hkm : k < ea
  · have R := Lib.hid (show (bookMake ⟨ss, k, ds⟩ ⟨id, day, 3, item, eq, ea, er⟩).1 = 2 by simp [bookMake, hkm])
    go_enter Try.func60, Try.ntmps60
    go_wp2_with fail
    rw [← hW]
    have HK := Lib.hid hkm
    clear hkm hW
    go_quiet (fail)
    have hkm := HK.out
    go_wp2_with fail
    go_ret
    rw [R.out]
    exact ⟨rfl, (fun h => by cases h), below_drewN B0.out nq⟩
  · have HK := Lib.hid hkm
    go_enter Try.func60, Try.ntmps60
    go_wp2_with fail
    rw [← hW]
    clear hW
    go_quiet (fail)
    go_wp2_with fail
    have BU := Lib.hid (below_drewN (Below.refl W.heap.size W) nq)
    generalize W.drewN nq = u at *
    have q1 := cell_keep BU.out q1; have c5 := cell_keep BU.out c5
    have HU := Lib.hid (HB.out.below BU.out)
    obtain ⟨_, qf, _, qs, cs, hqb⟩ := HU.out.work
    have EU := Lib.hid (blk_keep BU.out E.out)
    have wk : IntKind.i64.wrap (k - ea) = k - ea := IntWalk.i64_in _ (by omega)
    refine wp_region_cut (S := fun w' => w'.cell? ⟨q, 1, none⟩ = some (.int .i64 k) ∧ w'.cell? ⟨w.heap.size, 5, none⟩ = some (.int .i64 ea)) 9 (by kernel_rfl) (by kernel_rfl) (by simp only [List.pop_toArray, List.dropLast_cons_cons, List.dropLast_singleton]; rfl) ⟨q1, c5⟩ (fun hHeld => ?_)
    refine wpAnyH_take (i := 0) (oi := ?_) (v := ?_) (by simp only [List.getElem?_toArray, List.getElem?_cons_zero]; rfl) (by kernel_rfl) (by kernel_rfl) (by kernel_rfl) ?_ (Or.inl ⟨by rfl, ?_⟩) hHeld ?_
    rotate_left 1
    focus exact CutPost.panic fun _ _ _ h => h
    focus (intro w hSw; (try dsimp only at hSw); go_simp; try with_reducible rfl)
    (try simp only [Act.put, List.setIfInBounds_toArray, List.set_cons_zero, List.set_cons_succ])
    refine wpAnyH_take (i := 1) (oi := ?_) (v := ?_) (by simp only [List.getElem?_toArray, List.getElem?_cons_succ, List.getElem?_cons_zero]; rfl) (by kernel_rfl) (by kernel_rfl) (by kernel_rfl) ?_ (Or.inl ⟨by rfl, ?_⟩) hHeld ?_
    rotate_left 1
    focus exact CutPost.panic fun _ _ _ h => h
    focus (intro w hSw; (try dsimp only at hSw); go_simp; try with_reducible rfl)
    (try simp only [Act.put, List.setIfInBounds_toArray, List.set_cons_zero, List.set_cons_succ])
    refine wpAnyH_take (i := 2) (oi := ?_) (v := ?_) (by simp only [List.getElem?_toArray, List.getElem?_cons_succ, List.getElem?_cons_zero]; rfl) (by kernel_rfl) (by kernel_rfl) (by kernel_rfl) ?_ (Or.inl ⟨by rfl, ?_⟩) hHeld ?_
    rotate_left 1
    focus exact CutPost.panic fun _ _ _ h => h
    focus (intro w hSw; (try dsimp only at hSw); go_simp; try with_reducible rfl)
    (try simp only [Act.put, List.setIfInBounds_toArray, List.set_cons_zero, List.set_cons_succ])
    refine wpAnyH_take (i := 3) (oi := ?_) (v := ?_) (by simp only [List.getElem?_toArray, List.getElem?_cons_succ, List.getElem?_cons_zero]; rfl) (by kernel_rfl) (by kernel_rfl) (by kernel_rfl) ?_ (Or.inl ⟨by rfl, ?_⟩) hHeld ?_
    rotate_left 1
    focus exact CutPost.panic fun _ _ _ h => h
    focus (intro w hSw; (try dsimp only at hSw); go_simp; try with_reducible rfl)
    (try simp only [Act.put, List.setIfInBounds_toArray, List.set_cons_zero, List.set_cons_succ])
    refine wpAnyH_take (i := 4) (oi := ?_) (v := ?_) (by simp only [List.getElem?_toArray, List.getElem?_cons_succ, List.getElem?_cons_zero]; rfl) (by kernel_rfl) (by kernel_rfl) (by kernel_rfl) ?_ (Or.inl ⟨by rfl, ?_⟩) hHeld ?_
    rotate_left 1
    focus exact CutPost.panic fun _ _ _ h => h
    focus (intro w hSw; (try dsimp only at hSw); go_simp; try with_reducible rfl)
    (try simp only [Act.put, List.setIfInBounds_toArray, List.set_cons_zero, List.set_cons_succ])
    refine wpAnyH_take (i := 5) (oi := ?_) (v := ?_) (by simp only [List.getElem?_toArray, List.getElem?_cons_succ, List.getElem?_cons_zero]; rfl) (by kernel_rfl) (by kernel_rfl) (by kernel_rfl) ?_ (Or.inl ⟨by rfl, ?_⟩) hHeld ?_
    rotate_left 1
    focus exact CutPost.panic fun _ _ _ h => h
    focus (intro w hSw; (try dsimp only at hSw); go_simp; try with_reducible rfl)
    (try simp only [Act.put, List.setIfInBounds_toArray, List.set_cons_zero, List.set_cons_succ])
    refine wpAnyH_take (i := 6) (oi := ?_) (v := ?_) (by simp only [List.getElem?_toArray, List.getElem?_cons_succ, List.getElem?_cons_zero]; rfl) (by kernel_rfl) (by kernel_rfl) (by kernel_rfl) ?_ (Or.inl ⟨by rfl, ?_⟩) hHeld ?_
    rotate_left 1
    focus exact CutPost.panic fun _ _ _ h => h
    focus (intro w hSw; (try dsimp only at hSw); go_simp; try with_reducible rfl)
    (try simp only [Act.put, List.setIfInBounds_toArray, List.set_cons_zero, List.set_cons_succ])
    refine wpAnyH_take (i := 7) (oi := ?_) (v := ?_) (by simp only [List.getElem?_toArray, List.getElem?_cons_succ, List.getElem?_cons_zero]; rfl) (by kernel_rfl) (by kernel_rfl) (by kernel_rfl) ?_ (Or.inl ⟨by rfl, ?_⟩) hHeld ?_
    rotate_left 1
    focus exact CutPost.panic fun _ _ _ h => h
    focus (intro w hSw; (try dsimp only at hSw); go_simp; try with_reducible rfl)
    (try simp only [Act.put, List.setIfInBounds_toArray, List.set_cons_zero, List.set_cons_succ])
    refine wpAnyH_take (i := 8) (oi := ?_) (v := ?_) (by simp only [List.getElem?_toArray, List.getElem?_cons_succ, List.getElem?_cons_zero]; rfl) (by kernel_rfl) (by kernel_rfl) (by kernel_rfl) ?_ (Or.inl ⟨by rfl, ?_⟩) hHeld ?_
    rotate_left 1
    focus exact CutPost.panic fun _ _ _ h => h
    focus (intro w hSw; (try dsimp only at hSw); go_simp; try with_reducible rfl)
    (try simp only [Act.put, List.setIfInBounds_toArray, List.set_cons_zero, List.set_cons_succ])
    refine wpAnyH_done (by kernel_rfl) ?_ _
    refine CutPost.step (o := ?_) (by simp only [List.getElem?_toArray, List.getElem?_cons_succ, List.getElem?_cons_zero]; rfl) (fun K hK => ?_)
    go_simp
    refine hK _ _ ?_
    clear hK K
    (try simp only [Act.put, List.setIfInBounds_toArray, List.set_cons_zero, List.set_cons_succ])
    obtain ⟨V, hV⟩ : ∃ V, V = (u.setCell ⟨q, 1, none⟩ (.int .i64 (k - ea))).drew := ⟨_, rfl⟩
    have HV := Lib.hid (show BkO V lo q ss (k - ea) ds by rw [hV]; exact (HU.out.setk (k - ea)).below (Below.refl _ _).drew)
    have EV := Lib.hid (show V.heap[w.heap.size]? = some (Obj.cells #[.int .i64 id, .int .i64 day, .int .i64 3, .string item, .int .i64 eq, .int .i64 ea, .int .i64 er] 44 (0, 0)) by rw [hV]; exact (Keeps.setq (j := 1) (u := .int .i64 (k - ea)) hqb) _ _ _ (.inl rfl) EU.out)
    have BV := Lib.hid (show Below lo w V by rw [hV]; exact ((B0.out.trans (BU.out.mono zW)).setCell (p := ⟨q, 1, none⟩) hlq (.int .i64 (k - ea))).drew)
    have BVz : lo ≤ V.heap.size := Nat.le_trans hlo BV.out.size
    rw [← hV]
    clear hV hqb qf q1 c5 HU EU BU HB E b0
    have ec := evCells (e := ⟨id, day, 3, item, eq, ea, er⟩) EV.out; obtain ⟨c0, c1, c2, c3, c4, c5, c6⟩ := ec; simp only at c0 c1 c2 c3 c4 c5 c6
    cases hr : recvOk ss item eq ea
    · have HR := Lib.hid hr; clear hr
      have R := Lib.hid (show (bookMake ⟨ss, k, ds⟩ ⟨id, day, 3, item, eq, ea, er⟩).1 = 3 by simp [bookMake, show ¬ k < ea from by have := HK.out; omega, HR.out])
      go_wp2_with fail
      refine (implReceiveBk lo q ss ((k - ea)) ds ⟨id, day, 3, item, eq, ea, er⟩ _ HV.out BVz hss).mono ?_; rw [HR.out]; rintro r w1 ⟨rfl, _, hb1, _⟩
      have B1 := Lib.hid (BV.out.trans hb1)
      go_wp2_with fail
      go_ret
      rw [R.out]
      exact ⟨rfl, (fun h => by cases h), B1.out⟩
    · have HR := Lib.hid hr; clear hr
      go_wp2_with fail
      refine (implReceiveBk lo q ss ((k - ea)) ds ⟨id, day, 3, item, eq, ea, er⟩ _ HV.out BVz hss).mono ?_; rw [HR.out]; rintro r w1 ⟨rfl, h1, hb1, hk1⟩
      have H1 := Lib.hid (h1 rfl); have E1 := Lib.hid (hk1 _ _ _ (.inl rfl) EV.out); have B1 := Lib.hid (BV.out.trans hb1); have B1z : lo ≤ w1.heap.size := Nat.le_trans BVz hb1.size
      clear h1 hb1 hk1
      have ec := evCells (e := ⟨id, day, 3, item, eq, ea, er⟩) E1.out; obtain ⟨c0, c1, c2, c3, c4, c5, c6⟩ := ec; simp only at c0 c1 c2 c3 c4 c5 c6
      cases hp : bkPostOk ds day (makeE ⟨id, day, 3, item, eq, ea, er⟩)
      · have HP := Lib.hid hp; clear hp
        have R := Lib.hid (show (bookMake ⟨ss, k, ds⟩ ⟨id, day, 3, item, eq, ea, er⟩).1 = 3 by simp [bookMake, show ¬ k < ea from by have := HK.out; omega, HR.out, postB, HP.out])
        go_wp2_with fail
        refine (implPostBk lo q (recvSs ss item eq ea id) ((k - ea)) ds day _ 2 2 (makeE ⟨id, day, 3, item, eq, ea, er⟩) _ (H1.out.below (below_box _ _)) (Nat.le_trans B1z (below_box _ _).size) OK.out hdn (RS_new (by rfl)) (by omega) (makeE_small _)).mono ?_; rw [HP.out]; rintro r w5 ⟨rfl, h5, g5⟩
        have B5 := Lib.hid (B1.out.trans ((below_box _ _).mono B1z |>.trans (below_grownq g5 (Nat.le_trans B1z (below_box _ _).size) hlq)))
        clear h5 g5
        go_wp2_with fail
        go_ret
        rw [R.out]
        exact ⟨rfl, (fun h => by cases h), B5.out⟩
      · have HP := Lib.hid hp; clear hp
        have R := Lib.hid (show bookMake ⟨ss, k, ds⟩ ⟨id, day, 3, item, eq, ea, er⟩ = (0, ⟨recvSs ss item eq ea id, (k - ea), bkPostDs ds day (makeE ⟨id, day, 3, item, eq, ea, er⟩)⟩) by simp [bookMake, show ¬ k < ea from by have := HK.out; omega, HR.out, postB, HP.out])
        go_wp2_with fail
        refine (implPostBk lo q (recvSs ss item eq ea id) ((k - ea)) ds day _ 2 2 (makeE ⟨id, day, 3, item, eq, ea, er⟩) _ (H1.out.below (below_box _ _)) (Nat.le_trans B1z (below_box _ _).size) OK.out hdn (RS_new (by rfl)) (by omega) (makeE_small _)).mono ?_; rw [HP.out]; rintro r w5 ⟨rfl, h5, g5⟩
        have B5 := Lib.hid (B1.out.trans ((below_box _ _).mono B1z |>.trans (below_grownq g5 (Nat.le_trans B1z (below_box _ _).size) hlq)))
        have H5 := Lib.hid (h5 rfl)
        clear h5 g5
        go_wp2_with fail
        go_ret
        rw [R.out]
        exact ⟨rfl, fun _ => H5.out, B5.out⟩
set_option maxRecDepth 100000 in
set_option maxHeartbeats 8000000 in
theorem implBookSell (lo q : Nat) (b : Bk) (e : Ev) (w : World) (h : BkO w lo q b.ss b.k b.ds) (hlo : lo ≤ w.heap.size) (hss : shsOk b.ss = true) (hok : docsSmall b.ds) (hdn : b.ds.length ≤ 1048576) (hwk : 0 ≤ b.k ∧ b.k ≤ 1000000000) (hk : e.kind = 4) (ha1 : 1 ≤ e.a) (ha2 : e.a ≤ 100000) :
    Calls Try.prog 60 #[.pointer (some ⟨q, 0, none⟩), evAgg e] w fun r w' => r = .returned (.int .i64 (bookSell b e).1) ∧ ((bookSell b e).1 = 0 → BkO w' lo q (bookSell b e).2.ss (bookSell b e).2.k (bookSell b e).2.ds) ∧ Below lo w w' := by
  obtain ⟨ss, k, ds⟩ := b
  simp only at h hss hok hdn hwk
  obtain ⟨hwk1, hwk2⟩ := hwk
  obtain ⟨id, day, kind, item, eq, ea, er⟩ := e
  simp only at hk ha1 ha2
  subst hk
  obtain ⟨qk, qf, hlq, hqs, cs, hqb⟩ := h.work
  have b0 := Lib.hid (below_box w (Obj.cells #[.int .i64 id, .int .i64 day, .int .i64 4, .string item, .int .i64 eq, .int .i64 ea, .int .i64 er] 44))
  have E := Lib.hid (blk_new1 w (Obj.cells #[.int .i64 id, .int .i64 day, .int .i64 4, .string item, .int .i64 eq, .int .i64 ea, .int .i64 er] 44))
  have HB := Lib.hid (h.below b0.out)
  have OK := Lib.hid hok
  have zW : lo ≤ (w.alloc (Obj.cells #[.int .i64 id, .int .i64 day, .int .i64 4, .string item, .int .i64 eq, .int .i64 ea, .int .i64 er] 44)).heap.size := Nat.le_trans hlo b0.out.size
  clear h qk qf hqb cs hok
  have B0 := Lib.hid (b0.out.mono hlo); have B0z := zW
  cases ho : issOk ss item eq
  · have HO := Lib.hid ho; clear ho
    have R := Lib.hid (show (bookSell ⟨ss, k, ds⟩ ⟨id, day, 4, item, eq, ea, er⟩).1 = 2 by simp [bookSell, HO.out])
    go_enter Try.func60, Try.ntmps60
    go_wp2_with fail
    refine (implIssueBk lo q ss k ds ⟨id, day, 4, item, eq, ea, er⟩ _ HB.out B0z hss).mono ?_; rw [HO.out]; rintro r w1 ⟨c, rfl, _, hb1, _⟩
    have B1 := Lib.hid (B0.out.trans hb1)
    go_wp2_with fail
    go_ret
    rw [R.out]
    exact ⟨rfl, (fun h => by cases h), B1.out⟩
  · have HO := Lib.hid ho; clear ho
    go_enter Try.func60, Try.ntmps60
    go_wp2_with fail
    refine (implIssueBk lo q ss k ds ⟨id, day, 4, item, eq, ea, er⟩ _ HB.out B0z hss).mono ?_; rw [HO.out]; rintro r w1 ⟨c, rfl, hx1, hb1, hk1⟩
    obtain ⟨hc, h1⟩ := hx1 rfl
    clear hx1
    simp only at hc h1
    have c1 : 0 ≤ c := by rw [hc]; exact (issueCost_bd24 _ _).1
    have c2 : c ≤ 24000000000 := by rw [hc]; exact (issueCost_bd24 _ _).2
    have HC := Lib.hid hc; clear hc
    have H1 := Lib.hid h1; have E1 := Lib.hid (hk1 _ _ _ (.inl rfl) E.out); have B1 := Lib.hid (B0.out.trans hb1); have B1z : lo ≤ w1.heap.size := Nat.le_trans B0z hb1.size
    clear h1 hb1 hk1
    have ec := evCells (e := ⟨id, day, 4, item, eq, ea, er⟩) E1.out; obtain ⟨c0, c1, c2, c3, c4, c5, c6⟩ := ec; simp only at c0 c1 c2 c3 c4 c5 c6
    cases hp : bkPostOk ds day (sellE ⟨id, day, 4, item, eq, ea, er⟩ c)
    · have HP := Lib.hid hp; clear hp
      have R := Lib.hid (show (bookSell ⟨ss, k, ds⟩ ⟨id, day, 4, item, eq, ea, er⟩).1 = 3 by simp [bookSell, HO.out, ← HC.out, postB, HP.out])
      go_wp2_with fail
      refine (implPostBk lo q (issSs ss item eq) (k) ds day _ 4 4 (sellE ⟨id, day, 4, item, eq, ea, er⟩ c) _ (H1.out.below (below_box _ _)) (Nat.le_trans B1z (below_box _ _).size) OK.out hdn (RS_new (by rfl)) (by omega) (sellE_small _ _)).mono ?_; rw [HP.out]; rintro r w5 ⟨rfl, h5, g5⟩
      have B5 := Lib.hid (B1.out.trans ((below_box _ _).mono B1z |>.trans (below_grownq g5 (Nat.le_trans B1z (below_box _ _).size) hlq)))
      clear h5 g5
      go_wp2_with fail
      go_ret
      rw [R.out]
      exact ⟨rfl, (fun h => by cases h), B5.out⟩
    · have HP := Lib.hid hp; clear hp
      have R := Lib.hid (show bookSell ⟨ss, k, ds⟩ ⟨id, day, 4, item, eq, ea, er⟩ = (0, ⟨issSs ss item eq, k, bkPostDs ds day (sellE ⟨id, day, 4, item, eq, ea, er⟩ c)⟩) by simp [bookSell, HO.out, ← HC.out, postB, HP.out])
      go_wp2_with fail
      refine (implPostBk lo q (issSs ss item eq) (k) ds day _ 4 4 (sellE ⟨id, day, 4, item, eq, ea, er⟩ c) _ (H1.out.below (below_box _ _)) (Nat.le_trans B1z (below_box _ _).size) OK.out hdn (RS_new (by rfl)) (by omega) (sellE_small _ _)).mono ?_; rw [HP.out]; rintro r w5 ⟨rfl, h5, g5⟩
      have B5 := Lib.hid (B1.out.trans ((below_box _ _).mono B1z |>.trans (below_grownq g5 (Nat.le_trans B1z (below_box _ _).size) hlq)))
      have H5 := Lib.hid (h5 rfl)
      clear h5 g5
      go_wp2_with fail
      go_ret
      rw [R.out]
      exact ⟨rfl, fun _ => H5.out, B5.out⟩
set_option maxRecDepth 100000 in
set_option maxHeartbeats 8000000 in
theorem implBookIss (lo q : Nat) (b : Bk) (e : Ev) (w : World) (h : BkO w lo q b.ss b.k b.ds) (hlo : lo ≤ w.heap.size) (hss : shsOk b.ss = true) (hok : docsSmall b.ds) (hdn : b.ds.length ≤ 1048576) (hwk : 0 ≤ b.k ∧ b.k ≤ 1000000000) (hk : e.kind = 2) (ha : e.a = 0) :
    Calls Try.prog 60 #[.pointer (some ⟨q, 0, none⟩), evAgg e] w fun r w' => r = .returned (.int .i64 (bookIss b e).1) ∧ ((bookIss b e).1 = 0 → BkO w' lo q (bookIss b e).2.ss (bookIss b e).2.k (bookIss b e).2.ds) ∧ Below lo w w' := by
  obtain ⟨ss, k, ds⟩ := b
  simp only at h hss hok hdn hwk
  obtain ⟨hwk1, hwk2⟩ := hwk
  obtain ⟨id, day, kind, item, eq, ea, er⟩ := e
  simp only at hk ha
  subst hk
  obtain ⟨qk, qf, hlq, hqs, cs, hqb⟩ := h.work
  have b0 := Lib.hid (below_box w (Obj.cells #[.int .i64 id, .int .i64 day, .int .i64 2, .string item, .int .i64 eq, .int .i64 ea, .int .i64 er] 44))
  have E := Lib.hid (blk_new1 w (Obj.cells #[.int .i64 id, .int .i64 day, .int .i64 2, .string item, .int .i64 eq, .int .i64 ea, .int .i64 er] 44))
  have HB := Lib.hid (h.below b0.out)
  have OK := Lib.hid hok
  have zW : lo ≤ (w.alloc (Obj.cells #[.int .i64 id, .int .i64 day, .int .i64 2, .string item, .int .i64 eq, .int .i64 ea, .int .i64 er] 44)).heap.size := Nat.le_trans hlo b0.out.size
  clear h qk qf hqb cs hok
  clear ha
  have B0 := Lib.hid (b0.out.mono hlo); have B0z := zW
  cases ho : issOk ss item eq
  · have HO := Lib.hid ho; clear ho
    have R := Lib.hid (show (bookIss ⟨ss, k, ds⟩ ⟨id, day, 2, item, eq, ea, er⟩).1 = 2 by simp [bookIss, HO.out])
    go_enter Try.func60, Try.ntmps60
    go_wp2_with fail
    refine (implIssueBk lo q ss k ds ⟨id, day, 2, item, eq, ea, er⟩ _ HB.out B0z hss).mono ?_; rw [HO.out]; rintro r w1 ⟨c, rfl, _, hb1, _⟩
    have B1 := Lib.hid (B0.out.trans hb1)
    go_wp2_with fail
    go_ret
    rw [R.out]
    exact ⟨rfl, (fun h => by cases h), B1.out⟩
  · have HO := Lib.hid ho; clear ho
    go_enter Try.func60, Try.ntmps60
    go_wp2_with fail
    refine (implIssueBk lo q ss k ds ⟨id, day, 2, item, eq, ea, er⟩ _ HB.out B0z hss).mono ?_; rw [HO.out]; rintro r w1 ⟨c, rfl, hx1, hb1, hk1⟩
    obtain ⟨hc, h1⟩ := hx1 rfl
    clear hx1
    simp only at hc h1
    have c1 : 0 ≤ c := by rw [hc]; exact (issueCost_bd24 _ _).1
    have c2 : c ≤ 24000000000 := by rw [hc]; exact (issueCost_bd24 _ _).2
    have HC := Lib.hid hc; clear hc
    have H1 := Lib.hid h1; have E1 := Lib.hid (hk1 _ _ _ (.inl rfl) E.out); have B1 := Lib.hid (B0.out.trans hb1); have B1z : lo ≤ w1.heap.size := Nat.le_trans B0z hb1.size
    clear h1 hb1 hk1
    obtain ⟨q1, qf, _, qs, cs, hqb⟩ := H1.out.work
    have wk : IntKind.i64.wrap (k + c) = k + c := IntWalk.i64_in _ (by omega)
    have k2 := (evCells (e := ⟨id, day, 2, item, eq, ea, er⟩) E1.out).2.2.1
    simp only at k2
    go_upto_region 18 with fail
    obtain ⟨V, hV⟩ : ∃ V, V = w1.setCell ⟨q, 1, none⟩ (.int .i64 (k + c)) := ⟨_, rfl⟩
    have EV := Lib.hid (show V.heap[w.heap.size]? = some (Obj.cells #[.int .i64 id, .int .i64 day, .int .i64 2, .string item, .int .i64 eq, .int .i64 ea, .int .i64 er] 44 (0, 0)) by rw [hV]; exact (Keeps.setq (j := 1) (u := .int .i64 (k + c)) hqb) _ _ _ (.inl rfl) E1.out)
    have HV := Lib.hid (show BkO V lo q (issSs ss item eq) (k + c) ds by rw [hV]; exact H1.out.setk (k + c))
    have BV := Lib.hid (show Below lo w V by rw [hV]; exact B1.out.setCell (p := ⟨q, 1, none⟩) hlq (.int .i64 (k + c)))
    have BVz : lo ≤ V.heap.size := Nat.le_trans hlo BV.out.size
    rw [← hV]
    clear hV q1 qf cs hqb k2
    have ec := evCells (e := ⟨id, day, 2, item, eq, ea, er⟩) EV.out; obtain ⟨c0, c1, c2, c3, c4, c5, c6⟩ := ec; simp only at c0 c1 c2 c3 c4 c5 c6
    cases hp : bkPostOk ds day (issE c)
    · have HP := Lib.hid hp; clear hp
      have R := Lib.hid (show (bookIss ⟨ss, k, ds⟩ ⟨id, day, 2, item, eq, ea, er⟩).1 = 3 by
        simp only [bookIss, HO.out, ← HC.out, if_true]
        split
        · rfl
        · simp [postB, HP.out])
      go_wp2_with fail
      refine (implPostBk lo q (issSs ss item eq) (k + c) ds day _ 2 2 (issE c) _ (HV.out.below (below_box _ _)) (Nat.le_trans BVz (below_box _ _).size) OK.out hdn (RS_new (by rfl)) (by omega) (issE_small _)).mono ?_; rw [HP.out]; rintro r w5 ⟨rfl, h5, g5⟩
      have B5 := Lib.hid (BV.out.trans ((below_box _ _).mono BVz |>.trans (below_grownq g5 (Nat.le_trans BVz (below_box _ _).size) hlq)))
      clear h5 g5
      go_wp2_with fail
      go_ret
      rw [R.out]
      exact ⟨rfl, (fun h => by cases h), B5.out⟩
    · have HP := Lib.hid hp; clear hp
      by_cases hm : (1000000000 : Int) < k + c
      · have R := Lib.hid (show (bookIss ⟨ss, k, ds⟩ ⟨id, day, 2, item, eq, ea, er⟩).1 = 3 by
          simp only [bookIss, HO.out, ← HC.out, if_true]
          rw [if_pos hm])
        go_wp2_with fail
        refine (implPostBk lo q (issSs ss item eq) (k + c) ds day _ 2 2 (issE c) _ (HV.out.below (below_box _ _)) (Nat.le_trans BVz (below_box _ _).size) OK.out hdn (RS_new (by rfl)) (by omega) (issE_small _)).mono ?_; rw [HP.out]; rintro r w5 ⟨rfl, h5, g5⟩
        have B5 := Lib.hid (BV.out.trans ((below_box _ _).mono BVz |>.trans (below_grownq g5 (Nat.le_trans BVz (below_box _ _).size) hlq)))
        have q5 := (h5 rfl).work.1
        have hmb : decide (k + c ≤ 1000000000) = false := decide_eq_false (by omega)
        clear h5 g5
        go_wp2_with fail
        go_ret
        rw [R.out]
        exact ⟨rfl, (fun h => by cases h), B5.out⟩
      · have R := Lib.hid (show bookIss ⟨ss, k, ds⟩ ⟨id, day, 2, item, eq, ea, er⟩ = (0, ⟨issSs ss item eq, k + c, bkPostDs ds day (issE c)⟩) by
          simp only [bookIss, HO.out, ← HC.out, if_true]
          rw [if_neg hm]
          simp [postB, HP.out])
        go_wp2_with fail
        refine (implPostBk lo q (issSs ss item eq) (k + c) ds day _ 2 2 (issE c) _ (HV.out.below (below_box _ _)) (Nat.le_trans BVz (below_box _ _).size) OK.out hdn (RS_new (by rfl)) (by omega) (issE_small _)).mono ?_; rw [HP.out]; rintro r w5 ⟨rfl, h5, g5⟩
        have B5 := Lib.hid (BV.out.trans ((below_box _ _).mono BVz |>.trans (below_grownq g5 (Nat.le_trans BVz (below_box _ _).size) hlq)))
        have H5 := Lib.hid (h5 rfl)
        have q5 := H5.out.work.1
        have hmb : decide (k + c ≤ 1000000000) = true := decide_eq_true (by omega)
        clear h5 g5
        go_wp2_with fail
        go_ret
        rw [R.out]
        exact ⟨rfl, fun _ => H5.out, B5.out⟩
set_option maxRecDepth 100000 in
set_option maxHeartbeats 8000000 in
theorem implBookLate (lo q : Nat) (b : Bk) (e : Ev) (w : World) (h : BkO w lo q b.ss b.k b.ds) (hlo : lo ≤ w.heap.size) (hss : shsOk b.ss = true) (hok : docsSmall b.ds) (hdn : b.ds.length ≤ 1048576) (hwk : 0 ≤ b.k ∧ b.k ≤ 1000000000) (hk : e.kind = 5) (ha1 : -100000 ≤ e.a) (ha2 : e.a ≤ 100000) :
    Calls Try.prog 60 #[.pointer (some ⟨q, 0, none⟩), evAgg e] w fun r w' => r = .returned (.int .i64 (bookLate b e).1) ∧ ((bookLate b e).1 = 0 → BkO w' lo q (bookLate b e).2.ss (bookLate b e).2.k (bookLate b e).2.ds) ∧ Below lo w w' := by
  obtain ⟨ss, k, ds⟩ := b
  simp only at h hss hok hdn hwk
  obtain ⟨hwk1, hwk2⟩ := hwk
  obtain ⟨id, day, kind, item, eq, ea, er⟩ := e
  simp only at hk ha1 ha2
  subst hk
  obtain ⟨qk, qf, hlq, hqs, cs, hqb⟩ := h.work
  have b0 := Lib.hid (below_box w (Obj.cells #[.int .i64 id, .int .i64 day, .int .i64 5, .string item, .int .i64 eq, .int .i64 ea, .int .i64 er] 44))
  have E := Lib.hid (blk_new1 w (Obj.cells #[.int .i64 id, .int .i64 day, .int .i64 5, .string item, .int .i64 eq, .int .i64 ea, .int .i64 er] 44))
  have HB := Lib.hid (h.below b0.out)
  have OK := Lib.hid hok
  have zW : lo ≤ (w.alloc (Obj.cells #[.int .i64 id, .int .i64 day, .int .i64 5, .string item, .int .i64 eq, .int .i64 ea, .int .i64 er] 44)).heap.size := Nat.le_trans hlo b0.out.size
  clear h qk qf hqb cs hok
  have B0 := Lib.hid (b0.out.mono hlo); have B0z := zW
  by_cases ho : lateCode ss item er ea = 0
  · have HO := Lib.hid ho; clear ho
    go_enter Try.func60, Try.ntmps60
    go_wp2_with fail
    refine (implLateBk lo q ss k ds ⟨id, day, 5, item, eq, ea, er⟩ _ HB.out B0z hss).mono ?_; simp only; rw [HO.out]; rintro r w1 ⟨c, rfl, hx1, hb1, hk1⟩
    obtain ⟨hc, h1⟩ := hx1 rfl
    clear hx1
    have c1' : -24000000000 ≤ c := by rw [hc]; exact (lateGone_bd _ _ _).1
    have c2' : c ≤ 24000000000 := by rw [hc]; exact (lateGone_bd _ _ _).2
    have HC := Lib.hid hc; clear hc
    have H1 := Lib.hid h1; have E1 := Lib.hid (hk1 _ _ _ (.inl rfl) E.out); have B1 := Lib.hid (B0.out.trans hb1); have B1z : lo ≤ w1.heap.size := Nat.le_trans B0z hb1.size
    clear h1 hb1 hk1
    have wk : IntKind.i64.wrap (ea - c) = ea - c := IntWalk.i64_in _ (by omega)
    have ec := evCells (e := ⟨id, day, 5, item, eq, ea, er⟩) E1.out; obtain ⟨c0, c1, c2, c3, c4, c5, c6⟩ := ec; simp only at c0 c1 c2 c3 c4 c5 c6
    cases hp : bkPostOk ds day (lateE ⟨id, day, 5, item, eq, ea, er⟩ c)
    · have HP := Lib.hid hp; clear hp
      have R := Lib.hid (show (bookLate ⟨ss, k, ds⟩ ⟨id, day, 5, item, eq, ea, er⟩).1 = 3 by simp [bookLate, HO.out, ← HC.out, postB, HP.out])
      go_wp2_with fail
      refine (implPostBk lo q (lateSs ss item er ea) (k) ds day _ 3 3 (lateE ⟨id, day, 5, item, eq, ea, er⟩ c) _ (H1.out.below (below_box _ _)) (Nat.le_trans B1z (below_box _ _).size) OK.out hdn (RS_new (by rfl)) (by omega) (lateE_small _ _)).mono ?_; rw [HP.out]; rintro r w5 ⟨rfl, h5, g5⟩
      have B5 := Lib.hid (B1.out.trans ((below_box _ _).mono B1z |>.trans (below_grownq g5 (Nat.le_trans B1z (below_box _ _).size) hlq)))
      clear h5 g5
      go_wp2_with fail
      go_ret
      rw [R.out]
      exact ⟨rfl, (fun h => by cases h), B5.out⟩
    · have HP := Lib.hid hp; clear hp
      have R := Lib.hid (show bookLate ⟨ss, k, ds⟩ ⟨id, day, 5, item, eq, ea, er⟩ = (0, ⟨lateSs ss item er ea, k, bkPostDs ds day (lateE ⟨id, day, 5, item, eq, ea, er⟩ c)⟩) by simp [bookLate, HO.out, ← HC.out, postB, HP.out])
      go_wp2_with fail
      refine (implPostBk lo q (lateSs ss item er ea) (k) ds day _ 3 3 (lateE ⟨id, day, 5, item, eq, ea, er⟩ c) _ (H1.out.below (below_box _ _)) (Nat.le_trans B1z (below_box _ _).size) OK.out hdn (RS_new (by rfl)) (by omega) (lateE_small _ _)).mono ?_; rw [HP.out]; rintro r w5 ⟨rfl, h5, g5⟩
      have B5 := Lib.hid (B1.out.trans ((below_box _ _).mono B1z |>.trans (below_grownq g5 (Nat.le_trans B1z (below_box _ _).size) hlq)))
      have H5 := Lib.hid (h5 rfl)
      clear h5 g5
      go_wp2_with fail
      go_ret
      rw [R.out]
      exact ⟨rfl, fun _ => H5.out, B5.out⟩
  · obtain ⟨lc, hlc⟩ : ∃ lc, lc = lateCode ss item er ea := ⟨_, rfl⟩
    rw [← hlc] at ho
    have R := Lib.hid (show (bookLate ⟨ss, k, ds⟩ ⟨id, day, 5, item, eq, ea, er⟩).1 = lc by simp [bookLate, ← hlc, ho])
    have HL := Lib.hid hlc; clear hlc
    go_enter Try.func60, Try.ntmps60
    go_wp2_with fail
    refine (implLateBk lo q ss k ds ⟨id, day, 5, item, eq, ea, er⟩ _ HB.out B0z hss).mono ?_; simp only; rw [← HL.out]; rintro r w1 ⟨c, rfl, _, hb1, _⟩
    have B1 := Lib.hid (B0.out.trans hb1)
    go_wp2_with fail
    go_ret
    rw [R.out]
    exact ⟨rfl, (fun h => absurd h ho), B1.out⟩
theorem implBookBk (lo q : Nat) (b : Bk) (e : Ev) (w : World) (h : BkO w lo q b.ss b.k b.ds) (hlo : lo ≤ w.heap.size) (ha : areBk b.ss b.k b.ds = true) (he : isEvent e = true) (hok : docsSmall b.ds) :
    Calls Try.prog 60 #[.pointer (some ⟨q, 0, none⟩), evAgg e] w fun r w' => r = .returned (.int .i64 (bookB b e).1) ∧ ((bookB b e).1 = 0 → BkO w' lo q (bookB b e).2.ss (bookB b e).2.k (bookB b e).2.ds) ∧ Below lo w w' := by
  have hss := areBk_shs ha
  have hwk : 0 ≤ b.k ∧ b.k ≤ 1000000000 := by simp only [areBk, Bool.and_eq_true] at ha; exact inB_true.1 ha.2.2.1
  have hdn : b.ds.length ≤ 1048576 := by simp only [areBk, Bool.and_eq_true] at ha; have := (areDocs_true ha.2.2.2).1; omega
  rcases isEvent_ways he with ⟨hk, h1, h2⟩ | ⟨hk, h1, h2⟩ | ⟨hk, h1⟩ | ⟨hk, h1, h2⟩ | ⟨hk, h1, h2⟩
  · rw [show bookB b e = bookBuy b e by simp [bookB, hk]]; exact implBookBuy lo q b e w h hlo hss hok hdn hwk hk h1 h2
  · rw [show bookB b e = bookMake b e by simp [bookB, hk]]; exact implBookMake lo q b e w h hlo hss hok hdn hwk hk h1 h2
  · rw [show bookB b e = bookIss b e by simp [bookB, hk]]; exact implBookIss lo q b e w h hlo hss hok hdn hwk hk h1
  · rw [show bookB b e = bookSell b e by simp [bookB, hk]]; exact implBookSell lo q b e w h hlo hss hok hdn hwk hk h1 h2
  · rw [show bookB b e = bookLate b e by simp [bookB, hk]]; exact implBookLate lo q b e w h hlo hss hok hdn hwk hk h1 h2
end Go.Proofs.Ytlgodbjbllpipaa
namespace Go.Proofs.Ytlgodbjbllpipaa
open Go.ChangeShapes Go.WideShapes Go.ChangeAt Go.RowKit

theorem blk_set3 {w : World} {r : Nat} {a b c : Value} {t : TypeId} (hr : w.heap[r]? = some (.cells #[a, b, c] t (0, 0))) (u0 u1 u2 : Value) : (((w.setCell ⟨r, 0, none⟩ u0).setCell ⟨r, 1, none⟩ u1).setCell ⟨r, 2, none⟩ u2).heap[r]? = some (.cells #[u0, u1, u2] t (0, 0)) :=
  heap_setCell_same _ r 2 _ _ u2 (heap_setCell_same _ r 1 _ _ u1 (heap_setCell_same w r 0 _ _ u0 hr))
theorem Keeps.into {w w1 w2 : World} (h : Keeps none w w1) (hb : Below w.heap.size w1 w2) : Keeps none w w2 := fun k cs t ht hk => by
  rw [hb.block k (Array.getElem?_eq_some_iff.1 hk).1]
  exact h k cs t ht hk
theorem blk_set3_ne {w : World} {r k : Nat} (h : k ≠ r) (u0 u1 u2 : Value) : (((w.setCell ⟨r, 0, none⟩ u0).setCell ⟨r, 1, none⟩ u1).setCell ⟨r, 2, none⟩ u2).heap[k]? = w.heap[k]? :=
  (Below.heap_setCell _ _ _ _ h).trans ((Below.heap_setCell _ _ _ _ h).trans (Below.heap_setCell _ _ _ _ h))
set_option maxRecDepth 100000 in
set_option maxHeartbeats 8000000 in
theorem specBookBuy (lo hi2 : Nat) (sA : Option Addr) (sn sc : Nat) (dA : Option Addr) (dn dc : Nat) (b : Bk) (e : Ev) (w : World) (hbk : BooksO w lo hi2 (.slice sA sn sc) sn b.ss (.slice dA dn dc) dn b.ds) (hlo : lo ≤ w.heap.size) (hss : shsOk b.ss = true) (hok : docsSmall b.ds) (hdn : b.ds.length ≤ 1048576) (hwk : 0 ≤ b.k ∧ b.k ≤ 1000000000) (hk : e.kind = 1) (ha1 : 1 ≤ e.a) (ha2 : e.a ≤ 100000) :
    Calls Try.prog 57 #[.agg #[.slice sA sn sc, .int .i64 b.k, .slice dA dn dc], evAgg e] w fun r w' => ∃ A n c kk D m d, r = .returned (.tuple #[.agg #[.slice A n c, .int .i64 kk, .slice D m d], .int .i64 (bookBuy b e).1]) ∧
      ((bookBuy b e).1 = 0 → kk = (bookBuy b e).2.k ∧ BooksO w' lo w'.heap.size (.slice A n c) n (bookBuy b e).2.ss (.slice D m d) m (bookBuy b e).2.ds) ∧ Below lo w w' ∧ Keeps none w w' := by
  obtain ⟨ss, k, ds⟩ := b
  simp only at hbk hss hok hdn hwk ⊢
  obtain ⟨hwk1, hwk2⟩ := hwk
  obtain ⟨id, day, kind, item, eq, ea, er⟩ := e
  simp only at hk ha1 ha2
  subst hk
  have b0 := Lib.hid (below_then (below_then (below_box w (Obj.cells #[.slice sA sn sc, .int .i64 k, .slice dA dn dc] 31)) (below_box _ (Obj.cells #[.int .i64 id, .int .i64 day, .int .i64 1, .string item, .int .i64 eq, .int .i64 ea, .int .i64 er] 44))) (below_box _ (Obj.cells #[.slice none 0 0, .int .i64 0, .slice none 0 0] 31)))
  have Q := Lib.hid (blk_alloc (blk_alloc (blk_new1 w (Obj.cells #[.slice sA sn sc, .int .i64 k, .slice dA dn dc] 31)) (Obj.cells #[.int .i64 id, .int .i64 day, .int .i64 1, .string item, .int .i64 eq, .int .i64 ea, .int .i64 er] 44)) (Obj.cells #[.slice none 0 0, .int .i64 0, .slice none 0 0] 31))
  have E := Lib.hid (blk_alloc (blk_new2 w (Obj.cells #[.slice sA sn sc, .int .i64 k, .slice dA dn dc] 31) (Obj.cells #[.int .i64 id, .int .i64 day, .int .i64 1, .string item, .int .i64 eq, .int .i64 ea, .int .i64 er] 44)) (Obj.cells #[.slice none 0 0, .int .i64 0, .slice none 0 0] 31))
  have Z := Lib.hid (blk_new3 w (Obj.cells #[.slice sA sn sc, .int .i64 k, .slice dA dn dc] 31) (Obj.cells #[.int .i64 id, .int .i64 day, .int .i64 1, .string item, .int .i64 eq, .int .i64 ea, .int .i64 er] 44) (Obj.cells #[.slice none 0 0, .int .i64 0, .slice none 0 0] 31))
  have HB := Lib.hid (hbk.below b0.out).top
  have OK := Lib.hid hok
  have B0 := Lib.hid (b0.out.mono hlo)
  have K0 := Lib.hid (Keeps.below (q := none) b0.out)
  have hW0 : ∃ W, W = (((w.alloc (Obj.cells #[.slice sA sn sc, .int .i64 k, .slice dA dn dc] 31)).alloc (Obj.cells #[.int .i64 id, .int .i64 day, .int .i64 1, .string item, .int .i64 eq, .int .i64 ea, .int .i64 er] 44)).alloc (Obj.cells #[.slice none 0 0, .int .i64 0, .slice none 0 0] 31)) := ⟨_, rfl⟩
  obtain ⟨W, hW⟩ := hW0
  rw [← hW] at b0 Q E Z HB B0 K0
  have zW : lo ≤ W.heap.size := Nat.le_trans hlo B0.out.size
  clear hbk hok b0
  go_enter Try.func57, Try.ntmps57
  go_wp2_with fail
  rw [← hW]
  clear hW
  cases hr : recvOk ss item eq ea
  · have HR := Lib.hid hr; clear hr
    have R := Lib.hid (show (bookBuy ⟨ss, k, ds⟩ ⟨id, day, 1, item, eq, ea, er⟩).1 = 3 by simp [bookBuy, HR.out])
    refine (specReceiveBk lo _ sA sn sc k dA dn dc ss ds ⟨id, day, 1, item, eq, ea, er⟩ W HB.out (Nat.le_trans hlo B0.out.size) hss).mono ?_; simp only; rw [HR.out, show okCode false = 3 from rfl]; rintro r w1 ⟨A1, n1, c1, D1, m1, d1, rfl, h1, hb1, hk1⟩
    have Q1 := Lib.hid (hk1 _ _ _ (.inr ⟨rfl, by simp⟩) Q.out); have E1 := Lib.hid (hk1 _ _ _ (.inl rfl) E.out); have Z1 := Lib.hid (hk1 _ _ _ (.inr ⟨rfl, by simp⟩) Z.out)
    have B1 := Lib.hid (B0.out.trans hb1); have K1 := Lib.hid (K0.out.trans hk1)
    clear h1 hb1 hk1
    have x0 := blk_at Q1.out (j := 0) rfl; have x1 := blk_at Q1.out (j := 1) rfl; have x2 := blk_at Q1.out (j := 2) rfl; have xf := blk_free Q1.out
    go_upto_region 20 with fail
    obtain ⟨V1, hV⟩ : ∃ V1, V1 = (((w1.setCell ⟨w.heap.size, 0, none⟩ (.slice A1 n1 c1)).setCell ⟨w.heap.size, 1, none⟩ (.int .i64 k)).setCell ⟨w.heap.size, 2, none⟩ (.slice D1 m1 d1)) := ⟨_, rfl⟩
    have QV1 := Lib.hid (show V1.heap[w.heap.size]? = _ from hV ▸ blk_set3 Q1.out (.slice A1 n1 c1) (.int .i64 k) (.slice D1 m1 d1))
    have EV1 := Lib.hid ((show V1.heap[w.heap.size + 1]? = _ from hV ▸ blk_set3_ne (by omega) (.slice A1 n1 c1) (.int .i64 k) (.slice D1 m1 d1)).trans E1.out)
    have ZV1 := Lib.hid ((show V1.heap[w.heap.size + 1 + 1]? = _ from hV ▸ blk_set3_ne (by omega) (.slice A1 n1 c1) (.int .i64 k) (.slice D1 m1 d1)).trans Z1.out)
    have BV1 := Lib.hid (show Below lo w V1 from hV ▸ below_out3 B1.out hlo (.slice A1 n1 c1) (.int .i64 k) (.slice D1 m1 d1))
    have KV1 := Lib.hid (show Keeps none w V1 from hV ▸ Keeps.into K1.out (below_out3 (Below.refl _ _) (Nat.le_refl _) (.slice A1 n1 c1) (.int .i64 k) (.slice D1 m1 d1)))
    rw [← hV]
    clear hV x0 x1 x2 xf
    have x0 := blk_at QV1.out (j := 0) rfl; have x1 := blk_at QV1.out (j := 1) rfl; have x2 := blk_at QV1.out (j := 2) rfl; have xf := blk_free QV1.out
    have z0 := blk_at ZV1.out (j := 0) rfl; have z1 := blk_at ZV1.out (j := 1) rfl; have z2 := blk_at ZV1.out (j := 2) rfl; have zf := blk_free ZV1.out
    go_wp2_with fail
    rw [R.out]
    refine bodyPost_ret (v := .tuple #[.agg #[.slice A1 n1 c1, .int .i64 k, .slice D1 m1 d1], .int .i64 3]) (by simp [results, Try.results57, go_sem, z0, z1, z2]) rfl ⟨A1, n1, c1, k, D1, m1, d1, rfl, (fun h => by first | (exact absurd h (by decide)) | (cases h) | (exact absurd h ‹_›)), below_out3 BV1.out (by omega) _ _ _, Keeps.into KV1.out (below_out3 (Below.refl _ _) (by omega) _ _ _)⟩
  · have HR := Lib.hid hr; clear hr
    refine (specReceiveBk lo _ sA sn sc k dA dn dc ss ds ⟨id, day, 1, item, eq, ea, er⟩ W HB.out (Nat.le_trans hlo B0.out.size) hss).mono ?_; simp only; rw [HR.out, show okCode true = 0 from rfl]; rintro r w1 ⟨A1, n1, c1, D1, m1, d1, rfl, h1, hb1, hk1⟩
    have Q1 := Lib.hid (hk1 _ _ _ (.inr ⟨rfl, by simp⟩) Q.out); have E1 := Lib.hid (hk1 _ _ _ (.inl rfl) E.out); have Z1 := Lib.hid (hk1 _ _ _ (.inr ⟨rfl, by simp⟩) Z.out)
    have B1 := Lib.hid (B0.out.trans hb1); have K1 := Lib.hid (K0.out.trans hk1)
    have H1 := Lib.hid (h1 rfl)
    clear h1 hb1 hk1
    have x0 := blk_at Q1.out (j := 0) rfl; have x1 := blk_at Q1.out (j := 1) rfl; have x2 := blk_at Q1.out (j := 2) rfl; have xf := blk_free Q1.out
    go_upto_region 20 with fail
    obtain ⟨V1, hV⟩ : ∃ V1, V1 = (((w1.setCell ⟨w.heap.size, 0, none⟩ (.slice A1 n1 c1)).setCell ⟨w.heap.size, 1, none⟩ (.int .i64 k)).setCell ⟨w.heap.size, 2, none⟩ (.slice D1 m1 d1)) := ⟨_, rfl⟩
    have QV1 := Lib.hid (show V1.heap[w.heap.size]? = _ from hV ▸ blk_set3 Q1.out (.slice A1 n1 c1) (.int .i64 k) (.slice D1 m1 d1))
    have EV1 := Lib.hid ((show V1.heap[w.heap.size + 1]? = _ from hV ▸ blk_set3_ne (by omega) (.slice A1 n1 c1) (.int .i64 k) (.slice D1 m1 d1)).trans E1.out)
    have ZV1 := Lib.hid ((show V1.heap[w.heap.size + 1 + 1]? = _ from hV ▸ blk_set3_ne (by omega) (.slice A1 n1 c1) (.int .i64 k) (.slice D1 m1 d1)).trans Z1.out)
    have BV1 := Lib.hid (show Below lo w V1 from hV ▸ below_out3 B1.out hlo (.slice A1 n1 c1) (.int .i64 k) (.slice D1 m1 d1))
    have KV1 := Lib.hid (show Keeps none w V1 from hV ▸ Keeps.into K1.out (below_out3 (Below.refl _ _) (Nat.le_refl _) (.slice A1 n1 c1) (.int .i64 k) (.slice D1 m1 d1)))
    have HV1 := Lib.hid (show BooksO V1 lo V1.heap.size _ _ _ _ _ _ from hV ▸ (BooksO.out3 H1.out Q1.out (.slice A1 n1 c1) (.int .i64 k) (.slice D1 m1 d1)).top)
    rw [← hV]
    clear hV x0 x1 x2 xf
    cases hp : bkPostOk ds day (buyE ⟨id, day, 1, item, eq, ea, er⟩)
    · have HP := Lib.hid hp; clear hp
      have R := Lib.hid (show (bookBuy ⟨ss, k, ds⟩ ⟨id, day, 1, item, eq, ea, er⟩).1 = 3 by simp [bookBuy, HR.out, postB, HP.out])
      have ec := evCells (e := ⟨id, day, 1, item, eq, ea, er⟩) EV1.out; obtain ⟨y0, y1, y2, y3, y4, y5, y6⟩ := ec; simp only at y0 y1 y2 y3 y4 y5 y6; have y5a := cell_alloc y5
      have x0 := blk_at QV1.out (j := 0) rfl; have x1 := blk_at QV1.out (j := 1) rfl; have x2 := blk_at QV1.out (j := 2) rfl; have xf := blk_free QV1.out
      go_wp2_with fail
      clear x0 x1 x2 xf
      refine (specPostBk lo _ A1 n1 c1 (k) D1 m1 d1 (recvSs ss item eq ea id) ds day _ 2 2 _ 2 (buyE ⟨id, day, 1, item, eq, ea, er⟩) _ (HV1.out.below (below_then (below_box _ _) (below_box _ _))) (Nat.le_trans (Nat.le_trans hlo BV1.out.size) (below_then (below_box _ _) (below_box _ _)).size) OK.out hdn ((RS_new (by rfl)).alloc _) (RS_new2 (by rfl)) (by omega) (buyE_small _)).mono ?_; rw [HP.out, show okCode false = 3 from rfl]; rintro r w5 ⟨D5, m5, d5, rfl, h5, hb5⟩
      have b5 := Lib.hid (show Below V1.heap.size V1 w5 from below_then (below_then (below_box _ _) (below_box _ _)) hb5)
      have Q5 := Lib.hid (blk_keep b5.out QV1.out); have E5 := Lib.hid (blk_keep b5.out EV1.out); have Z5 := Lib.hid (blk_keep b5.out ZV1.out)
      have B5 := Lib.hid (BV1.out.trans (b5.out.mono (Nat.le_trans hlo BV1.out.size)))
      have K5 := Lib.hid (KV1.out.trans (Keeps.below b5.out))
      clear h5 hb5 b5 y0 y1 y2 y3 y4 y5 y5a y6
      have x0 := blk_at Q5.out (j := 0) rfl; have x1 := blk_at Q5.out (j := 1) rfl; have x2 := blk_at Q5.out (j := 2) rfl; have xf := blk_free Q5.out
      go_upto_region 40 with fail
      obtain ⟨VE, hV⟩ : ∃ VE, VE = (((w5.setCell ⟨w.heap.size, 0, none⟩ (.slice A1 n1 c1)).setCell ⟨w.heap.size, 1, none⟩ (.int .i64 k)).setCell ⟨w.heap.size, 2, none⟩ (.slice D5 m5 d5)) := ⟨_, rfl⟩
      have QVE := Lib.hid (show VE.heap[w.heap.size]? = _ from hV ▸ blk_set3 Q5.out (.slice A1 n1 c1) (.int .i64 k) (.slice D5 m5 d5))
      have EVE := Lib.hid ((show VE.heap[w.heap.size + 1]? = _ from hV ▸ blk_set3_ne (by omega) (.slice A1 n1 c1) (.int .i64 k) (.slice D5 m5 d5)).trans E5.out)
      have ZVE := Lib.hid ((show VE.heap[w.heap.size + 1 + 1]? = _ from hV ▸ blk_set3_ne (by omega) (.slice A1 n1 c1) (.int .i64 k) (.slice D5 m5 d5)).trans Z5.out)
      have BVE := Lib.hid (show Below lo w VE from hV ▸ below_out3 B5.out hlo (.slice A1 n1 c1) (.int .i64 k) (.slice D5 m5 d5))
      have KVE := Lib.hid (show Keeps none w VE from hV ▸ Keeps.into K5.out (below_out3 (Below.refl _ _) (Nat.le_refl _) (.slice A1 n1 c1) (.int .i64 k) (.slice D5 m5 d5)))
      rw [← hV]
      clear hV x0 x1 x2 xf
      have x0 := blk_at QVE.out (j := 0) rfl; have x1 := blk_at QVE.out (j := 1) rfl; have x2 := blk_at QVE.out (j := 2) rfl; have xf := blk_free QVE.out
      have z0 := blk_at ZVE.out (j := 0) rfl; have z1 := blk_at ZVE.out (j := 1) rfl; have z2 := blk_at ZVE.out (j := 2) rfl; have zf := blk_free ZVE.out
      go_wp2_with fail
      rw [R.out]
      refine bodyPost_ret (v := .tuple #[.agg #[.slice A1 n1 c1, .int .i64 k, .slice D5 m5 d5], .int .i64 3]) (by simp [results, Try.results57, go_sem, z0, z1, z2]) rfl ⟨A1, n1, c1, k, D5, m5, d5, rfl, (fun h => by first | (exact absurd h (by decide)) | (cases h) | (exact absurd h ‹_›)), below_out3 BVE.out (by omega) _ _ _, Keeps.into KVE.out (below_out3 (Below.refl _ _) (by omega) _ _ _)⟩
    · have HP := Lib.hid hp; clear hp
      have R := Lib.hid (show bookBuy ⟨ss, k, ds⟩ ⟨id, day, 1, item, eq, ea, er⟩ = (0, ⟨recvSs ss item eq ea id, k, bkPostDs ds day (buyE ⟨id, day, 1, item, eq, ea, er⟩)⟩) by simp [bookBuy, HR.out, postB, HP.out])
      have ec := evCells (e := ⟨id, day, 1, item, eq, ea, er⟩) EV1.out; obtain ⟨y0, y1, y2, y3, y4, y5, y6⟩ := ec; simp only at y0 y1 y2 y3 y4 y5 y6; have y5a := cell_alloc y5
      have x0 := blk_at QV1.out (j := 0) rfl; have x1 := blk_at QV1.out (j := 1) rfl; have x2 := blk_at QV1.out (j := 2) rfl; have xf := blk_free QV1.out
      go_wp2_with fail
      clear x0 x1 x2 xf
      refine (specPostBk lo _ A1 n1 c1 (k) D1 m1 d1 (recvSs ss item eq ea id) ds day _ 2 2 _ 2 (buyE ⟨id, day, 1, item, eq, ea, er⟩) _ (HV1.out.below (below_then (below_box _ _) (below_box _ _))) (Nat.le_trans (Nat.le_trans hlo BV1.out.size) (below_then (below_box _ _) (below_box _ _)).size) OK.out hdn ((RS_new (by rfl)).alloc _) (RS_new2 (by rfl)) (by omega) (buyE_small _)).mono ?_; rw [HP.out, show okCode true = 0 from rfl]; rintro r w5 ⟨D5, m5, d5, rfl, h5, hb5⟩
      have b5 := Lib.hid (show Below V1.heap.size V1 w5 from below_then (below_then (below_box _ _) (below_box _ _)) hb5)
      have Q5 := Lib.hid (blk_keep b5.out QV1.out); have E5 := Lib.hid (blk_keep b5.out EV1.out); have Z5 := Lib.hid (blk_keep b5.out ZV1.out)
      have B5 := Lib.hid (BV1.out.trans (b5.out.mono (Nat.le_trans hlo BV1.out.size)))
      have K5 := Lib.hid (KV1.out.trans (Keeps.below b5.out))
      have H5 := Lib.hid (h5 rfl)
      clear h5 hb5 b5 y0 y1 y2 y3 y4 y5 y5a y6
      have x0 := blk_at Q5.out (j := 0) rfl; have x1 := blk_at Q5.out (j := 1) rfl; have x2 := blk_at Q5.out (j := 2) rfl; have xf := blk_free Q5.out
      go_upto_region 40 with fail
      obtain ⟨VE, hV⟩ : ∃ VE, VE = (((w5.setCell ⟨w.heap.size, 0, none⟩ (.slice A1 n1 c1)).setCell ⟨w.heap.size, 1, none⟩ (.int .i64 k)).setCell ⟨w.heap.size, 2, none⟩ (.slice D5 m5 d5)) := ⟨_, rfl⟩
      have QVE := Lib.hid (show VE.heap[w.heap.size]? = _ from hV ▸ blk_set3 Q5.out (.slice A1 n1 c1) (.int .i64 k) (.slice D5 m5 d5))
      have EVE := Lib.hid ((show VE.heap[w.heap.size + 1]? = _ from hV ▸ blk_set3_ne (by omega) (.slice A1 n1 c1) (.int .i64 k) (.slice D5 m5 d5)).trans E5.out)
      have ZVE := Lib.hid ((show VE.heap[w.heap.size + 1 + 1]? = _ from hV ▸ blk_set3_ne (by omega) (.slice A1 n1 c1) (.int .i64 k) (.slice D5 m5 d5)).trans Z5.out)
      have BVE := Lib.hid (show Below lo w VE from hV ▸ below_out3 B5.out hlo (.slice A1 n1 c1) (.int .i64 k) (.slice D5 m5 d5))
      have KVE := Lib.hid (show Keeps none w VE from hV ▸ Keeps.into K5.out (below_out3 (Below.refl _ _) (Nat.le_refl _) (.slice A1 n1 c1) (.int .i64 k) (.slice D5 m5 d5)))
      have HVE := Lib.hid (show BooksO VE lo VE.heap.size _ _ _ _ _ _ from hV ▸ (BooksO.out3 H5.out Q5.out (.slice A1 n1 c1) (.int .i64 k) (.slice D5 m5 d5)).top)
      rw [← hV]
      clear hV x0 x1 x2 xf
      have x0 := blk_at QVE.out (j := 0) rfl; have x1 := blk_at QVE.out (j := 1) rfl; have x2 := blk_at QVE.out (j := 2) rfl; have xf := blk_free QVE.out
      have z0 := blk_at ZVE.out (j := 0) rfl; have z1 := blk_at ZVE.out (j := 1) rfl; have z2 := blk_at ZVE.out (j := 2) rfl; have zf := blk_free ZVE.out
      go_wp2_with fail
      rw [R.out]
      refine bodyPost_ret (v := .tuple #[.agg #[.slice A1 n1 c1, .int .i64 k, .slice D5 m5 d5], .int .i64 0]) (by simp [results, Try.results57, go_sem, z0, z1, z2]) rfl ⟨A1, n1, c1, k, D5, m5, d5, rfl, fun _ => ⟨rfl, (BooksO.out3 HVE.out ZVE.out _ _ _).top⟩, below_out3 BVE.out (by omega) _ _ _, Keeps.into KVE.out (below_out3 (Below.refl _ _) (by omega) _ _ _)⟩
set_option maxRecDepth 100000 in
set_option maxHeartbeats 8000000 in
theorem specBookMake (lo hi2 : Nat) (sA : Option Addr) (sn sc : Nat) (dA : Option Addr) (dn dc : Nat) (b : Bk) (e : Ev) (w : World) (hbk : BooksO w lo hi2 (.slice sA sn sc) sn b.ss (.slice dA dn dc) dn b.ds) (hlo : lo ≤ w.heap.size) (hss : shsOk b.ss = true) (hok : docsSmall b.ds) (hdn : b.ds.length ≤ 1048576) (hwk : 0 ≤ b.k ∧ b.k ≤ 1000000000) (hk : e.kind = 3) (ha1 : 1 ≤ e.a) (ha2 : e.a ≤ 100000) :
    Calls Try.prog 57 #[.agg #[.slice sA sn sc, .int .i64 b.k, .slice dA dn dc], evAgg e] w fun r w' => ∃ A n c kk D m d, r = .returned (.tuple #[.agg #[.slice A n c, .int .i64 kk, .slice D m d], .int .i64 (bookMake b e).1]) ∧
      ((bookMake b e).1 = 0 → kk = (bookMake b e).2.k ∧ BooksO w' lo w'.heap.size (.slice A n c) n (bookMake b e).2.ss (.slice D m d) m (bookMake b e).2.ds) ∧ Below lo w w' ∧ Keeps none w w' := by
  obtain ⟨ss, k, ds⟩ := b
  simp only at hbk hss hok hdn hwk ⊢
  obtain ⟨hwk1, hwk2⟩ := hwk
  obtain ⟨id, day, kind, item, eq, ea, er⟩ := e
  simp only at hk ha1 ha2
  subst hk
  have b0 := Lib.hid (below_then (below_then (below_box w (Obj.cells #[.slice sA sn sc, .int .i64 k, .slice dA dn dc] 31)) (below_box _ (Obj.cells #[.int .i64 id, .int .i64 day, .int .i64 3, .string item, .int .i64 eq, .int .i64 ea, .int .i64 er] 44))) (below_box _ (Obj.cells #[.slice none 0 0, .int .i64 0, .slice none 0 0] 31)))
  have Q := Lib.hid (blk_alloc (blk_alloc (blk_new1 w (Obj.cells #[.slice sA sn sc, .int .i64 k, .slice dA dn dc] 31)) (Obj.cells #[.int .i64 id, .int .i64 day, .int .i64 3, .string item, .int .i64 eq, .int .i64 ea, .int .i64 er] 44)) (Obj.cells #[.slice none 0 0, .int .i64 0, .slice none 0 0] 31))
  have E := Lib.hid (blk_alloc (blk_new2 w (Obj.cells #[.slice sA sn sc, .int .i64 k, .slice dA dn dc] 31) (Obj.cells #[.int .i64 id, .int .i64 day, .int .i64 3, .string item, .int .i64 eq, .int .i64 ea, .int .i64 er] 44)) (Obj.cells #[.slice none 0 0, .int .i64 0, .slice none 0 0] 31))
  have Z := Lib.hid (blk_new3 w (Obj.cells #[.slice sA sn sc, .int .i64 k, .slice dA dn dc] 31) (Obj.cells #[.int .i64 id, .int .i64 day, .int .i64 3, .string item, .int .i64 eq, .int .i64 ea, .int .i64 er] 44) (Obj.cells #[.slice none 0 0, .int .i64 0, .slice none 0 0] 31))
  have HB := Lib.hid (hbk.below b0.out).top
  have OK := Lib.hid hok
  have B0 := Lib.hid (b0.out.mono hlo)
  have K0 := Lib.hid (Keeps.below (q := none) b0.out)
  have hW0 : ∃ W, W = (((w.alloc (Obj.cells #[.slice sA sn sc, .int .i64 k, .slice dA dn dc] 31)).alloc (Obj.cells #[.int .i64 id, .int .i64 day, .int .i64 3, .string item, .int .i64 eq, .int .i64 ea, .int .i64 er] 44)).alloc (Obj.cells #[.slice none 0 0, .int .i64 0, .slice none 0 0] 31)) := ⟨_, rfl⟩
  obtain ⟨W, hW⟩ := hW0
  rw [← hW] at b0 Q E Z HB B0 K0
  have zW : lo ≤ W.heap.size := Nat.le_trans hlo B0.out.size
  clear hbk hok b0
  by_cases hkm : k < ea
  · have R := Lib.hid (show (bookMake ⟨ss, k, ds⟩ ⟨id, day, 3, item, eq, ea, er⟩).1 = 2 by simp [bookMake, hkm])
    have QW := Q; have ZW := Z; have BW := B0; have KW := K0
    have ec := evCells (e := ⟨id, day, 3, item, eq, ea, er⟩) E.out; obtain ⟨y0, y1, y2, y3, y4, y5, y6⟩ := ec; simp only at y0 y1 y2 y3 y4 y5 y6; have y5a := cell_alloc y5
    have x0 := blk_at Q.out (j := 0) rfl; have x1 := blk_at Q.out (j := 1) rfl; have x2 := blk_at Q.out (j := 2) rfl; have xf := blk_free Q.out
    go_enter Try.func57, Try.ntmps57
    go_upto_region 23 with fail
    rw [← hW]
    clear hW
    have x0 := blk_at QW.out (j := 0) rfl; have x1 := blk_at QW.out (j := 1) rfl; have x2 := blk_at QW.out (j := 2) rfl; have xf := blk_free QW.out
    have z0 := blk_at ZW.out (j := 0) rfl; have z1 := blk_at ZW.out (j := 1) rfl; have z2 := blk_at ZW.out (j := 2) rfl; have zf := blk_free ZW.out
    go_wp2_with fail
    rw [R.out]
    refine bodyPost_ret (v := .tuple #[.agg #[.slice sA sn sc, .int .i64 k, .slice dA dn dc], .int .i64 2]) (by simp [results, Try.results57, go_sem, z0, z1, z2]) rfl ⟨sA, sn, sc, k, dA, dn, dc, rfl, (fun h => by first | (exact absurd h (by decide)) | (cases h) | (exact absurd h ‹_›)), below_out3 BW.out (by omega) _ _ _, Keeps.into KW.out (below_out3 (Below.refl _ _) (by omega) _ _ _)⟩
  · have ec := evCells (e := ⟨id, day, 3, item, eq, ea, er⟩) E.out; obtain ⟨y0, y1, y2, y3, y4, y5, y6⟩ := ec; simp only at y0 y1 y2 y3 y4 y5 y6; have y5a := cell_alloc y5
    have x0 := blk_at Q.out (j := 0) rfl; have x1 := blk_at Q.out (j := 1) rfl; have x2 := blk_at Q.out (j := 2) rfl; have xf := blk_free Q.out
    go_enter Try.func57, Try.ntmps57
    go_upto_region 23 with fail
    rw [← hW]
    clear hW
    go_wp2_with fail
    clear x0 x1 x2 xf y0 y1 y2 y3 y4 y5 y5a y6
    have wk : IntKind.i64.wrap (k - ea) = k - ea := IntWalk.i64_in _ (by omega)
    have HKM := Lib.hid hkm
    cases hr : recvOk ss item eq ea
    · have HR := Lib.hid hr; clear hr
      have R := Lib.hid (show (bookMake ⟨ss, k, ds⟩ ⟨id, day, 3, item, eq, ea, er⟩).1 = 3 by simp [bookMake, show ¬ k < ea from by have := HKM.out; omega, HR.out])
      refine (specReceiveBk lo _ sA sn sc k dA dn dc ss ds ⟨id, day, 3, item, eq, ea, er⟩ W HB.out (Nat.le_trans hlo B0.out.size) hss).mono ?_; simp only; rw [HR.out, show okCode false = 3 from rfl]; rintro r w1 ⟨A1, n1, c1, D1, m1, d1, rfl, h1, hb1, hk1⟩
      have Q1 := Lib.hid (hk1 _ _ _ (.inr ⟨rfl, by simp⟩) Q.out); have E1 := Lib.hid (hk1 _ _ _ (.inl rfl) E.out); have Z1 := Lib.hid (hk1 _ _ _ (.inr ⟨rfl, by simp⟩) Z.out)
      have B1 := Lib.hid (B0.out.trans hb1); have K1 := Lib.hid (K0.out.trans hk1)
      clear h1 hb1 hk1
      have x0 := blk_at Q1.out (j := 0) rfl; have x1 := blk_at Q1.out (j := 1) rfl; have x2 := blk_at Q1.out (j := 2) rfl; have xf := blk_free Q1.out
      go_upto_region 26 with fail
      obtain ⟨V1, hV⟩ : ∃ V1, V1 = (((w1.setCell ⟨w.heap.size, 0, none⟩ (.slice A1 n1 c1)).setCell ⟨w.heap.size, 1, none⟩ (.int .i64 k)).setCell ⟨w.heap.size, 2, none⟩ (.slice D1 m1 d1)) := ⟨_, rfl⟩
      have QV1 := Lib.hid (show V1.heap[w.heap.size]? = _ from hV ▸ blk_set3 Q1.out (.slice A1 n1 c1) (.int .i64 k) (.slice D1 m1 d1))
      have EV1 := Lib.hid ((show V1.heap[w.heap.size + 1]? = _ from hV ▸ blk_set3_ne (by omega) (.slice A1 n1 c1) (.int .i64 k) (.slice D1 m1 d1)).trans E1.out)
      have ZV1 := Lib.hid ((show V1.heap[w.heap.size + 1 + 1]? = _ from hV ▸ blk_set3_ne (by omega) (.slice A1 n1 c1) (.int .i64 k) (.slice D1 m1 d1)).trans Z1.out)
      have BV1 := Lib.hid (show Below lo w V1 from hV ▸ below_out3 B1.out hlo (.slice A1 n1 c1) (.int .i64 k) (.slice D1 m1 d1))
      have KV1 := Lib.hid (show Keeps none w V1 from hV ▸ Keeps.into K1.out (below_out3 (Below.refl _ _) (Nat.le_refl _) (.slice A1 n1 c1) (.int .i64 k) (.slice D1 m1 d1)))
      rw [← hV]
      clear hV x0 x1 x2 xf
      have x0 := blk_at QV1.out (j := 0) rfl; have x1 := blk_at QV1.out (j := 1) rfl; have x2 := blk_at QV1.out (j := 2) rfl; have xf := blk_free QV1.out
      have z0 := blk_at ZV1.out (j := 0) rfl; have z1 := blk_at ZV1.out (j := 1) rfl; have z2 := blk_at ZV1.out (j := 2) rfl; have zf := blk_free ZV1.out
      go_wp2_with fail
      rw [R.out]
      refine bodyPost_ret (v := .tuple #[.agg #[.slice A1 n1 c1, .int .i64 k, .slice D1 m1 d1], .int .i64 3]) (by simp [results, Try.results57, go_sem, z0, z1, z2]) rfl ⟨A1, n1, c1, k, D1, m1, d1, rfl, (fun h => by first | (exact absurd h (by decide)) | (cases h) | (exact absurd h ‹_›)), below_out3 BV1.out (by omega) _ _ _, Keeps.into KV1.out (below_out3 (Below.refl _ _) (by omega) _ _ _)⟩
    · have HR := Lib.hid hr; clear hr
      refine (specReceiveBk lo _ sA sn sc k dA dn dc ss ds ⟨id, day, 3, item, eq, ea, er⟩ W HB.out (Nat.le_trans hlo B0.out.size) hss).mono ?_; simp only; rw [HR.out, show okCode true = 0 from rfl]; rintro r w1 ⟨A1, n1, c1, D1, m1, d1, rfl, h1, hb1, hk1⟩
      have Q1 := Lib.hid (hk1 _ _ _ (.inr ⟨rfl, by simp⟩) Q.out); have E1 := Lib.hid (hk1 _ _ _ (.inl rfl) E.out); have Z1 := Lib.hid (hk1 _ _ _ (.inr ⟨rfl, by simp⟩) Z.out)
      have B1 := Lib.hid (B0.out.trans hb1); have K1 := Lib.hid (K0.out.trans hk1)
      have H1 := Lib.hid (h1 rfl)
      clear h1 hb1 hk1
      have x0 := blk_at Q1.out (j := 0) rfl; have x1 := blk_at Q1.out (j := 1) rfl; have x2 := blk_at Q1.out (j := 2) rfl; have xf := blk_free Q1.out
      go_upto_region 26 with fail
      obtain ⟨V1, hV⟩ : ∃ V1, V1 = (((w1.setCell ⟨w.heap.size, 0, none⟩ (.slice A1 n1 c1)).setCell ⟨w.heap.size, 1, none⟩ (.int .i64 k)).setCell ⟨w.heap.size, 2, none⟩ (.slice D1 m1 d1)) := ⟨_, rfl⟩
      have QV1 := Lib.hid (show V1.heap[w.heap.size]? = _ from hV ▸ blk_set3 Q1.out (.slice A1 n1 c1) (.int .i64 k) (.slice D1 m1 d1))
      have EV1 := Lib.hid ((show V1.heap[w.heap.size + 1]? = _ from hV ▸ blk_set3_ne (by omega) (.slice A1 n1 c1) (.int .i64 k) (.slice D1 m1 d1)).trans E1.out)
      have ZV1 := Lib.hid ((show V1.heap[w.heap.size + 1 + 1]? = _ from hV ▸ blk_set3_ne (by omega) (.slice A1 n1 c1) (.int .i64 k) (.slice D1 m1 d1)).trans Z1.out)
      have BV1 := Lib.hid (show Below lo w V1 from hV ▸ below_out3 B1.out hlo (.slice A1 n1 c1) (.int .i64 k) (.slice D1 m1 d1))
      have KV1 := Lib.hid (show Keeps none w V1 from hV ▸ Keeps.into K1.out (below_out3 (Below.refl _ _) (Nat.le_refl _) (.slice A1 n1 c1) (.int .i64 k) (.slice D1 m1 d1)))
      have HV1 := Lib.hid (show BooksO V1 lo V1.heap.size _ _ _ _ _ _ from hV ▸ (BooksO.out3 H1.out Q1.out (.slice A1 n1 c1) (.int .i64 k) (.slice D1 m1 d1)).top)
      rw [← hV]
      clear hV x0 x1 x2 xf
      have ec := evCells (e := ⟨id, day, 3, item, eq, ea, er⟩) EV1.out; obtain ⟨y0, y1, y2, y3, y4, y5, y6⟩ := ec; simp only at y0 y1 y2 y3 y4 y5 y6; have y5a := cell_alloc y5
      have x0 := blk_at QV1.out (j := 0) rfl; have x1 := blk_at QV1.out (j := 1) rfl; have x2 := blk_at QV1.out (j := 2) rfl; have xf := blk_free QV1.out
      go_upto_region 28 with fail
      clear x0 x1 x2 xf y0 y1 y2 y3 y4 y5 y5a y6
      obtain ⟨V2, hV⟩ : ∃ V2, V2 = V1.setCell ⟨w.heap.size, 1, none⟩ (.int .i64 (k - ea)) := ⟨_, rfl⟩
      have QV2 := Lib.hid (show V2.heap[w.heap.size]? = some (.cells #[.slice A1 n1 c1, .int .i64 (k - ea), .slice D1 m1 d1] 31 (0, 0)) by rw [hV]; exact heap_setCell_same V1 w.heap.size 1 _ _ (.int .i64 (k - ea)) QV1.out)
      have EV2 := Lib.hid ((show V2.heap[w.heap.size + 1]? = _ by rw [hV]; exact Below.heap_setCell _ _ _ _ (Nat.succ_ne_self _)).trans EV1.out)
      have ZV2 := Lib.hid ((show V2.heap[w.heap.size + 1 + 1]? = V1.heap[w.heap.size + 1 + 1]? by rw [hV]; exact Below.heap_setCell _ _ _ _ (by simp only; omega)).trans ZV1.out)
      have BV2 := Lib.hid (show Below lo w V2 by rw [hV]; exact BV1.out.setCell (p := ⟨w.heap.size, 1, none⟩) hlo (.int .i64 (k - ea)))
      have KV2 := Lib.hid (show Keeps none w V2 by rw [hV]; exact Keeps.into KV1.out ((Below.refl _ _).setCell (p := ⟨w.heap.size, 1, none⟩) (Nat.le_refl _) (.int .i64 (k - ea))))
      have HV2 := Lib.hid (show BooksO V2 lo V2.heap.size _ _ _ _ _ _ by rw [hV]; exact (HV1.out.setq (j := 1) (u := .int .i64 (k - ea)) QV1.out rfl).top)
      rw [← hV]
      clear hV
      cases hp : bkPostOk ds day (makeE ⟨id, day, 3, item, eq, ea, er⟩)
      · have HP := Lib.hid hp; clear hp
        have R := Lib.hid (show (bookMake ⟨ss, k, ds⟩ ⟨id, day, 3, item, eq, ea, er⟩).1 = 3 by simp [bookMake, show ¬ k < ea from by have := HKM.out; omega, HR.out, postB, HP.out])
        have ec := evCells (e := ⟨id, day, 3, item, eq, ea, er⟩) EV2.out; obtain ⟨y0, y1, y2, y3, y4, y5, y6⟩ := ec; simp only at y0 y1 y2 y3 y4 y5 y6; have y5a := cell_alloc y5
        have x0 := blk_at QV2.out (j := 0) rfl; have x1 := blk_at QV2.out (j := 1) rfl; have x2 := blk_at QV2.out (j := 2) rfl; have xf := blk_free QV2.out
        go_wp2_with fail
        clear x0 x1 x2 xf
        refine (specPostBk lo _ A1 n1 c1 (k - ea) D1 m1 d1 (recvSs ss item eq ea id) ds day _ 2 2 _ 2 (makeE ⟨id, day, 3, item, eq, ea, er⟩) _ (HV2.out.below (below_then (below_box _ _) (below_box _ _))) (Nat.le_trans (Nat.le_trans hlo BV2.out.size) (below_then (below_box _ _) (below_box _ _)).size) OK.out hdn ((RS_new (by rfl)).alloc _) (RS_new2 (by rfl)) (by omega) (makeE_small _)).mono ?_; rw [HP.out, show okCode false = 3 from rfl]; rintro r w5 ⟨D5, m5, d5, rfl, h5, hb5⟩
        have b5 := Lib.hid (show Below V2.heap.size V2 w5 from below_then (below_then (below_box _ _) (below_box _ _)) hb5)
        have Q5 := Lib.hid (blk_keep b5.out QV2.out); have E5 := Lib.hid (blk_keep b5.out EV2.out); have Z5 := Lib.hid (blk_keep b5.out ZV2.out)
        have B5 := Lib.hid (BV2.out.trans (b5.out.mono (Nat.le_trans hlo BV2.out.size)))
        have K5 := Lib.hid (KV2.out.trans (Keeps.below b5.out))
        clear h5 hb5 b5 y0 y1 y2 y3 y4 y5 y5a y6
        have x0 := blk_at Q5.out (j := 0) rfl; have x1 := blk_at Q5.out (j := 1) rfl; have x2 := blk_at Q5.out (j := 2) rfl; have xf := blk_free Q5.out
        go_upto_region 40 with fail
        obtain ⟨VE, hV⟩ : ∃ VE, VE = (((w5.setCell ⟨w.heap.size, 0, none⟩ (.slice A1 n1 c1)).setCell ⟨w.heap.size, 1, none⟩ (.int .i64 (k - ea))).setCell ⟨w.heap.size, 2, none⟩ (.slice D5 m5 d5)) := ⟨_, rfl⟩
        have QVE := Lib.hid (show VE.heap[w.heap.size]? = _ from hV ▸ blk_set3 Q5.out (.slice A1 n1 c1) (.int .i64 (k - ea)) (.slice D5 m5 d5))
        have EVE := Lib.hid ((show VE.heap[w.heap.size + 1]? = _ from hV ▸ blk_set3_ne (by omega) (.slice A1 n1 c1) (.int .i64 (k - ea)) (.slice D5 m5 d5)).trans E5.out)
        have ZVE := Lib.hid ((show VE.heap[w.heap.size + 1 + 1]? = _ from hV ▸ blk_set3_ne (by omega) (.slice A1 n1 c1) (.int .i64 (k - ea)) (.slice D5 m5 d5)).trans Z5.out)
        have BVE := Lib.hid (show Below lo w VE from hV ▸ below_out3 B5.out hlo (.slice A1 n1 c1) (.int .i64 (k - ea)) (.slice D5 m5 d5))
        have KVE := Lib.hid (show Keeps none w VE from hV ▸ Keeps.into K5.out (below_out3 (Below.refl _ _) (Nat.le_refl _) (.slice A1 n1 c1) (.int .i64 (k - ea)) (.slice D5 m5 d5)))
        rw [← hV]
        clear hV x0 x1 x2 xf
        have x0 := blk_at QVE.out (j := 0) rfl; have x1 := blk_at QVE.out (j := 1) rfl; have x2 := blk_at QVE.out (j := 2) rfl; have xf := blk_free QVE.out
        have z0 := blk_at ZVE.out (j := 0) rfl; have z1 := blk_at ZVE.out (j := 1) rfl; have z2 := blk_at ZVE.out (j := 2) rfl; have zf := blk_free ZVE.out
        go_wp2_with fail
        rw [R.out]
        refine bodyPost_ret (v := .tuple #[.agg #[.slice A1 n1 c1, .int .i64 (k - ea), .slice D5 m5 d5], .int .i64 3]) (by simp [results, Try.results57, go_sem, z0, z1, z2]) rfl ⟨A1, n1, c1, (k - ea), D5, m5, d5, rfl, (fun h => by first | (exact absurd h (by decide)) | (cases h) | (exact absurd h ‹_›)), below_out3 BVE.out (by omega) _ _ _, Keeps.into KVE.out (below_out3 (Below.refl _ _) (by omega) _ _ _)⟩
      · have HP := Lib.hid hp; clear hp
        have R := Lib.hid (show bookMake ⟨ss, k, ds⟩ ⟨id, day, 3, item, eq, ea, er⟩ = (0, ⟨recvSs ss item eq ea id, k - ea, bkPostDs ds day (makeE ⟨id, day, 3, item, eq, ea, er⟩)⟩) by simp [bookMake, show ¬ k < ea from by have := HKM.out; omega, HR.out, postB, HP.out])
        have ec := evCells (e := ⟨id, day, 3, item, eq, ea, er⟩) EV2.out; obtain ⟨y0, y1, y2, y3, y4, y5, y6⟩ := ec; simp only at y0 y1 y2 y3 y4 y5 y6; have y5a := cell_alloc y5
        have x0 := blk_at QV2.out (j := 0) rfl; have x1 := blk_at QV2.out (j := 1) rfl; have x2 := blk_at QV2.out (j := 2) rfl; have xf := blk_free QV2.out
        go_wp2_with fail
        clear x0 x1 x2 xf
        refine (specPostBk lo _ A1 n1 c1 (k - ea) D1 m1 d1 (recvSs ss item eq ea id) ds day _ 2 2 _ 2 (makeE ⟨id, day, 3, item, eq, ea, er⟩) _ (HV2.out.below (below_then (below_box _ _) (below_box _ _))) (Nat.le_trans (Nat.le_trans hlo BV2.out.size) (below_then (below_box _ _) (below_box _ _)).size) OK.out hdn ((RS_new (by rfl)).alloc _) (RS_new2 (by rfl)) (by omega) (makeE_small _)).mono ?_; rw [HP.out, show okCode true = 0 from rfl]; rintro r w5 ⟨D5, m5, d5, rfl, h5, hb5⟩
        have b5 := Lib.hid (show Below V2.heap.size V2 w5 from below_then (below_then (below_box _ _) (below_box _ _)) hb5)
        have Q5 := Lib.hid (blk_keep b5.out QV2.out); have E5 := Lib.hid (blk_keep b5.out EV2.out); have Z5 := Lib.hid (blk_keep b5.out ZV2.out)
        have B5 := Lib.hid (BV2.out.trans (b5.out.mono (Nat.le_trans hlo BV2.out.size)))
        have K5 := Lib.hid (KV2.out.trans (Keeps.below b5.out))
        have H5 := Lib.hid (h5 rfl)
        clear h5 hb5 b5 y0 y1 y2 y3 y4 y5 y5a y6
        have x0 := blk_at Q5.out (j := 0) rfl; have x1 := blk_at Q5.out (j := 1) rfl; have x2 := blk_at Q5.out (j := 2) rfl; have xf := blk_free Q5.out
        go_upto_region 40 with fail
        obtain ⟨VE, hV⟩ : ∃ VE, VE = (((w5.setCell ⟨w.heap.size, 0, none⟩ (.slice A1 n1 c1)).setCell ⟨w.heap.size, 1, none⟩ (.int .i64 (k - ea))).setCell ⟨w.heap.size, 2, none⟩ (.slice D5 m5 d5)) := ⟨_, rfl⟩
        have QVE := Lib.hid (show VE.heap[w.heap.size]? = _ from hV ▸ blk_set3 Q5.out (.slice A1 n1 c1) (.int .i64 (k - ea)) (.slice D5 m5 d5))
        have EVE := Lib.hid ((show VE.heap[w.heap.size + 1]? = _ from hV ▸ blk_set3_ne (by omega) (.slice A1 n1 c1) (.int .i64 (k - ea)) (.slice D5 m5 d5)).trans E5.out)
        have ZVE := Lib.hid ((show VE.heap[w.heap.size + 1 + 1]? = _ from hV ▸ blk_set3_ne (by omega) (.slice A1 n1 c1) (.int .i64 (k - ea)) (.slice D5 m5 d5)).trans Z5.out)
        have BVE := Lib.hid (show Below lo w VE from hV ▸ below_out3 B5.out hlo (.slice A1 n1 c1) (.int .i64 (k - ea)) (.slice D5 m5 d5))
        have KVE := Lib.hid (show Keeps none w VE from hV ▸ Keeps.into K5.out (below_out3 (Below.refl _ _) (Nat.le_refl _) (.slice A1 n1 c1) (.int .i64 (k - ea)) (.slice D5 m5 d5)))
        have HVE := Lib.hid (show BooksO VE lo VE.heap.size _ _ _ _ _ _ from hV ▸ (BooksO.out3 H5.out Q5.out (.slice A1 n1 c1) (.int .i64 (k - ea)) (.slice D5 m5 d5)).top)
        rw [← hV]
        clear hV x0 x1 x2 xf
        have x0 := blk_at QVE.out (j := 0) rfl; have x1 := blk_at QVE.out (j := 1) rfl; have x2 := blk_at QVE.out (j := 2) rfl; have xf := blk_free QVE.out
        have z0 := blk_at ZVE.out (j := 0) rfl; have z1 := blk_at ZVE.out (j := 1) rfl; have z2 := blk_at ZVE.out (j := 2) rfl; have zf := blk_free ZVE.out
        go_wp2_with fail
        rw [R.out]
        refine bodyPost_ret (v := .tuple #[.agg #[.slice A1 n1 c1, .int .i64 (k - ea), .slice D5 m5 d5], .int .i64 0]) (by simp [results, Try.results57, go_sem, z0, z1, z2]) rfl ⟨A1, n1, c1, (k - ea), D5, m5, d5, rfl, fun _ => ⟨rfl, (BooksO.out3 HVE.out ZVE.out _ _ _).top⟩, below_out3 BVE.out (by omega) _ _ _, Keeps.into KVE.out (below_out3 (Below.refl _ _) (by omega) _ _ _)⟩
set_option maxRecDepth 100000 in
set_option maxHeartbeats 8000000 in
theorem specBookSell (lo hi2 : Nat) (sA : Option Addr) (sn sc : Nat) (dA : Option Addr) (dn dc : Nat) (b : Bk) (e : Ev) (w : World) (hbk : BooksO w lo hi2 (.slice sA sn sc) sn b.ss (.slice dA dn dc) dn b.ds) (hlo : lo ≤ w.heap.size) (hss : shsOk b.ss = true) (hok : docsSmall b.ds) (hdn : b.ds.length ≤ 1048576) (hwk : 0 ≤ b.k ∧ b.k ≤ 1000000000) (hk : e.kind = 4) (ha1 : 1 ≤ e.a) (ha2 : e.a ≤ 100000) :
    Calls Try.prog 57 #[.agg #[.slice sA sn sc, .int .i64 b.k, .slice dA dn dc], evAgg e] w fun r w' => ∃ A n c kk D m d, r = .returned (.tuple #[.agg #[.slice A n c, .int .i64 kk, .slice D m d], .int .i64 (bookSell b e).1]) ∧
      ((bookSell b e).1 = 0 → kk = (bookSell b e).2.k ∧ BooksO w' lo w'.heap.size (.slice A n c) n (bookSell b e).2.ss (.slice D m d) m (bookSell b e).2.ds) ∧ Below lo w w' ∧ Keeps none w w' := by
  obtain ⟨ss, k, ds⟩ := b
  simp only at hbk hss hok hdn hwk ⊢
  obtain ⟨hwk1, hwk2⟩ := hwk
  obtain ⟨id, day, kind, item, eq, ea, er⟩ := e
  simp only at hk ha1 ha2
  subst hk
  have b0 := Lib.hid (below_then (below_then (below_box w (Obj.cells #[.slice sA sn sc, .int .i64 k, .slice dA dn dc] 31)) (below_box _ (Obj.cells #[.int .i64 id, .int .i64 day, .int .i64 4, .string item, .int .i64 eq, .int .i64 ea, .int .i64 er] 44))) (below_box _ (Obj.cells #[.slice none 0 0, .int .i64 0, .slice none 0 0] 31)))
  have Q := Lib.hid (blk_alloc (blk_alloc (blk_new1 w (Obj.cells #[.slice sA sn sc, .int .i64 k, .slice dA dn dc] 31)) (Obj.cells #[.int .i64 id, .int .i64 day, .int .i64 4, .string item, .int .i64 eq, .int .i64 ea, .int .i64 er] 44)) (Obj.cells #[.slice none 0 0, .int .i64 0, .slice none 0 0] 31))
  have E := Lib.hid (blk_alloc (blk_new2 w (Obj.cells #[.slice sA sn sc, .int .i64 k, .slice dA dn dc] 31) (Obj.cells #[.int .i64 id, .int .i64 day, .int .i64 4, .string item, .int .i64 eq, .int .i64 ea, .int .i64 er] 44)) (Obj.cells #[.slice none 0 0, .int .i64 0, .slice none 0 0] 31))
  have Z := Lib.hid (blk_new3 w (Obj.cells #[.slice sA sn sc, .int .i64 k, .slice dA dn dc] 31) (Obj.cells #[.int .i64 id, .int .i64 day, .int .i64 4, .string item, .int .i64 eq, .int .i64 ea, .int .i64 er] 44) (Obj.cells #[.slice none 0 0, .int .i64 0, .slice none 0 0] 31))
  have HB := Lib.hid (hbk.below b0.out).top
  have OK := Lib.hid hok
  have B0 := Lib.hid (b0.out.mono hlo)
  have K0 := Lib.hid (Keeps.below (q := none) b0.out)
  have hW0 : ∃ W, W = (((w.alloc (Obj.cells #[.slice sA sn sc, .int .i64 k, .slice dA dn dc] 31)).alloc (Obj.cells #[.int .i64 id, .int .i64 day, .int .i64 4, .string item, .int .i64 eq, .int .i64 ea, .int .i64 er] 44)).alloc (Obj.cells #[.slice none 0 0, .int .i64 0, .slice none 0 0] 31)) := ⟨_, rfl⟩
  obtain ⟨W, hW⟩ := hW0
  rw [← hW] at b0 Q E Z HB B0 K0
  have zW : lo ≤ W.heap.size := Nat.le_trans hlo B0.out.size
  clear hbk hok b0
  go_enter Try.func57, Try.ntmps57
  go_wp2_with fail
  rw [← hW]
  clear hW
  cases hr : issOk ss item eq
  · have HR := Lib.hid hr; clear hr
    have R := Lib.hid (show (bookSell ⟨ss, k, ds⟩ ⟨id, day, 4, item, eq, ea, er⟩).1 = 2 by simp [bookSell, HR.out])
    refine (specIssueBk lo _ sA sn sc k dA dn dc ss ds ⟨id, day, 4, item, eq, ea, er⟩ W HB.out zW hss).mono ?_; simp only; rw [HR.out, show fewCode false = 2 from rfl]; rintro r w1 ⟨A1, n1, c1, D1, m1, d1, y, rfl, h1, hb1, hk1⟩
    have Q1 := Lib.hid (hk1 _ _ _ (.inr ⟨rfl, by simp⟩) Q.out); have E1 := Lib.hid (hk1 _ _ _ (.inl rfl) E.out); have Z1 := Lib.hid (hk1 _ _ _ (.inr ⟨rfl, by simp⟩) Z.out)
    have B1 := Lib.hid (B0.out.trans hb1); have K1 := Lib.hid (K0.out.trans hk1)
    clear h1 hb1 hk1
    have x0 := blk_at Q1.out (j := 0) rfl; have x1 := blk_at Q1.out (j := 1) rfl; have x2 := blk_at Q1.out (j := 2) rfl; have xf := blk_free Q1.out
    go_upto_region 38 with fail
    obtain ⟨V1, hV⟩ : ∃ V1, V1 = (((w1.setCell ⟨w.heap.size, 0, none⟩ (.slice A1 n1 c1)).setCell ⟨w.heap.size, 1, none⟩ (.int .i64 k)).setCell ⟨w.heap.size, 2, none⟩ (.slice D1 m1 d1)) := ⟨_, rfl⟩
    have QV1 := Lib.hid (show V1.heap[w.heap.size]? = _ from hV ▸ blk_set3 Q1.out (.slice A1 n1 c1) (.int .i64 k) (.slice D1 m1 d1))
    have EV1 := Lib.hid ((show V1.heap[w.heap.size + 1]? = _ from hV ▸ blk_set3_ne (by omega) (.slice A1 n1 c1) (.int .i64 k) (.slice D1 m1 d1)).trans E1.out)
    have ZV1 := Lib.hid ((show V1.heap[w.heap.size + 1 + 1]? = _ from hV ▸ blk_set3_ne (by omega) (.slice A1 n1 c1) (.int .i64 k) (.slice D1 m1 d1)).trans Z1.out)
    have BV1 := Lib.hid (show Below lo w V1 from hV ▸ below_out3 B1.out hlo (.slice A1 n1 c1) (.int .i64 k) (.slice D1 m1 d1))
    have KV1 := Lib.hid (show Keeps none w V1 from hV ▸ Keeps.into K1.out (below_out3 (Below.refl _ _) (Nat.le_refl _) (.slice A1 n1 c1) (.int .i64 k) (.slice D1 m1 d1)))
    rw [← hV]
    clear hV x0 x1 x2 xf
    have x0 := blk_at QV1.out (j := 0) rfl; have x1 := blk_at QV1.out (j := 1) rfl; have x2 := blk_at QV1.out (j := 2) rfl; have xf := blk_free QV1.out
    have z0 := blk_at ZV1.out (j := 0) rfl; have z1 := blk_at ZV1.out (j := 1) rfl; have z2 := blk_at ZV1.out (j := 2) rfl; have zf := blk_free ZV1.out
    go_wp2_with fail
    rw [R.out]
    refine bodyPost_ret (v := .tuple #[.agg #[.slice A1 n1 c1, .int .i64 k, .slice D1 m1 d1], .int .i64 2]) (by simp [results, Try.results57, go_sem, z0, z1, z2]) rfl ⟨A1, n1, c1, k, D1, m1, d1, rfl, (fun h => by first | (exact absurd h (by decide)) | (cases h) | (exact absurd h ‹_›)), below_out3 BV1.out (by omega) _ _ _, Keeps.into KV1.out (below_out3 (Below.refl _ _) (by omega) _ _ _)⟩
  · have HR := Lib.hid hr; clear hr
    refine (specIssueBk lo _ sA sn sc k dA dn dc ss ds ⟨id, day, 4, item, eq, ea, er⟩ W HB.out zW hss).mono ?_; simp only; rw [HR.out, show fewCode true = 0 from rfl]; rintro r w1 ⟨A1, n1, c1, D1, m1, d1, y, rfl, h1, hb1, hk1⟩
    have Q1 := Lib.hid (hk1 _ _ _ (.inr ⟨rfl, by simp⟩) Q.out); have E1 := Lib.hid (hk1 _ _ _ (.inl rfl) E.out); have Z1 := Lib.hid (hk1 _ _ _ (.inr ⟨rfl, by simp⟩) Z.out)
    have B1 := Lib.hid (B0.out.trans hb1); have K1 := Lib.hid (K0.out.trans hk1)
    obtain ⟨hc, hx1⟩ := h1 rfl
    have H1 := Lib.hid hx1
    have yb1 : 0 ≤ y := by rw [hc]; exact (issueCost_bd24 _ _).1
    have yb2 : y ≤ 24000000000 := by rw [hc]; exact (issueCost_bd24 _ _).2
    have HC := Lib.hid hc
    clear hc hx1
    clear h1 hb1 hk1
    have x0 := blk_at Q1.out (j := 0) rfl; have x1 := blk_at Q1.out (j := 1) rfl; have x2 := blk_at Q1.out (j := 2) rfl; have xf := blk_free Q1.out
    go_upto_region 38 with fail
    obtain ⟨V1, hV⟩ : ∃ V1, V1 = (((w1.setCell ⟨w.heap.size, 0, none⟩ (.slice A1 n1 c1)).setCell ⟨w.heap.size, 1, none⟩ (.int .i64 k)).setCell ⟨w.heap.size, 2, none⟩ (.slice D1 m1 d1)) := ⟨_, rfl⟩
    have QV1 := Lib.hid (show V1.heap[w.heap.size]? = _ from hV ▸ blk_set3 Q1.out (.slice A1 n1 c1) (.int .i64 k) (.slice D1 m1 d1))
    have EV1 := Lib.hid ((show V1.heap[w.heap.size + 1]? = _ from hV ▸ blk_set3_ne (by omega) (.slice A1 n1 c1) (.int .i64 k) (.slice D1 m1 d1)).trans E1.out)
    have ZV1 := Lib.hid ((show V1.heap[w.heap.size + 1 + 1]? = _ from hV ▸ blk_set3_ne (by omega) (.slice A1 n1 c1) (.int .i64 k) (.slice D1 m1 d1)).trans Z1.out)
    have BV1 := Lib.hid (show Below lo w V1 from hV ▸ below_out3 B1.out hlo (.slice A1 n1 c1) (.int .i64 k) (.slice D1 m1 d1))
    have KV1 := Lib.hid (show Keeps none w V1 from hV ▸ Keeps.into K1.out (below_out3 (Below.refl _ _) (Nat.le_refl _) (.slice A1 n1 c1) (.int .i64 k) (.slice D1 m1 d1)))
    have HV1 := Lib.hid (show BooksO V1 lo V1.heap.size _ _ _ _ _ _ from hV ▸ (BooksO.out3 H1.out Q1.out (.slice A1 n1 c1) (.int .i64 k) (.slice D1 m1 d1)).top)
    rw [← hV]
    clear hV x0 x1 x2 xf
    cases hp : bkPostOk ds day (sellE ⟨id, day, 4, item, eq, ea, er⟩ y)
    · have HP := Lib.hid hp; clear hp
      have R := Lib.hid (show (bookSell ⟨ss, k, ds⟩ ⟨id, day, 4, item, eq, ea, er⟩).1 = 3 by simp [bookSell, HR.out, ← HC.out, postB, HP.out])
      have ec := evCells (e := ⟨id, day, 4, item, eq, ea, er⟩) EV1.out; obtain ⟨y0, y1, y2, y3, y4, y5, y6⟩ := ec; simp only at y0 y1 y2 y3 y4 y5 y6; have y5a := cell_alloc y5
      have x0 := blk_at QV1.out (j := 0) rfl; have x1 := blk_at QV1.out (j := 1) rfl; have x2 := blk_at QV1.out (j := 2) rfl; have xf := blk_free QV1.out
      go_wp2_with fail
      clear x0 x1 x2 xf
      refine (specPostBk lo _ A1 n1 c1 (k) D1 m1 d1 (issSs ss item eq) ds day _ 4 4 _ 4 (sellE ⟨id, day, 4, item, eq, ea, er⟩ y) _ (HV1.out.below (below_then (below_box _ _) (below_box _ _))) (Nat.le_trans (Nat.le_trans hlo BV1.out.size) (below_then (below_box _ _) (below_box _ _)).size) OK.out hdn ((RS_new (by rfl)).alloc _) (RS_new2 (by rfl)) (by omega) (sellE_small _ _)).mono ?_; rw [HP.out, show okCode false = 3 from rfl]; rintro r w5 ⟨D5, m5, d5, rfl, h5, hb5⟩
      have b5 := Lib.hid (show Below V1.heap.size V1 w5 from below_then (below_then (below_box _ _) (below_box _ _)) hb5)
      have Q5 := Lib.hid (blk_keep b5.out QV1.out); have E5 := Lib.hid (blk_keep b5.out EV1.out); have Z5 := Lib.hid (blk_keep b5.out ZV1.out)
      have B5 := Lib.hid (BV1.out.trans (b5.out.mono (Nat.le_trans hlo BV1.out.size)))
      have K5 := Lib.hid (KV1.out.trans (Keeps.below b5.out))
      clear h5 hb5 b5 y0 y1 y2 y3 y4 y5 y5a y6
      have x0 := blk_at Q5.out (j := 0) rfl; have x1 := blk_at Q5.out (j := 1) rfl; have x2 := blk_at Q5.out (j := 2) rfl; have xf := blk_free Q5.out
      go_upto_region 40 with fail
      obtain ⟨VE, hV⟩ : ∃ VE, VE = (((w5.setCell ⟨w.heap.size, 0, none⟩ (.slice A1 n1 c1)).setCell ⟨w.heap.size, 1, none⟩ (.int .i64 k)).setCell ⟨w.heap.size, 2, none⟩ (.slice D5 m5 d5)) := ⟨_, rfl⟩
      have QVE := Lib.hid (show VE.heap[w.heap.size]? = _ from hV ▸ blk_set3 Q5.out (.slice A1 n1 c1) (.int .i64 k) (.slice D5 m5 d5))
      have EVE := Lib.hid ((show VE.heap[w.heap.size + 1]? = _ from hV ▸ blk_set3_ne (by omega) (.slice A1 n1 c1) (.int .i64 k) (.slice D5 m5 d5)).trans E5.out)
      have ZVE := Lib.hid ((show VE.heap[w.heap.size + 1 + 1]? = _ from hV ▸ blk_set3_ne (by omega) (.slice A1 n1 c1) (.int .i64 k) (.slice D5 m5 d5)).trans Z5.out)
      have BVE := Lib.hid (show Below lo w VE from hV ▸ below_out3 B5.out hlo (.slice A1 n1 c1) (.int .i64 k) (.slice D5 m5 d5))
      have KVE := Lib.hid (show Keeps none w VE from hV ▸ Keeps.into K5.out (below_out3 (Below.refl _ _) (Nat.le_refl _) (.slice A1 n1 c1) (.int .i64 k) (.slice D5 m5 d5)))
      rw [← hV]
      clear hV x0 x1 x2 xf
      have x0 := blk_at QVE.out (j := 0) rfl; have x1 := blk_at QVE.out (j := 1) rfl; have x2 := blk_at QVE.out (j := 2) rfl; have xf := blk_free QVE.out
      have z0 := blk_at ZVE.out (j := 0) rfl; have z1 := blk_at ZVE.out (j := 1) rfl; have z2 := blk_at ZVE.out (j := 2) rfl; have zf := blk_free ZVE.out
      go_wp2_with fail
      rw [R.out]
      refine bodyPost_ret (v := .tuple #[.agg #[.slice A1 n1 c1, .int .i64 k, .slice D5 m5 d5], .int .i64 3]) (by simp [results, Try.results57, go_sem, z0, z1, z2]) rfl ⟨A1, n1, c1, k, D5, m5, d5, rfl, (fun h => by first | (exact absurd h (by decide)) | (cases h) | (exact absurd h ‹_›)), below_out3 BVE.out (by omega) _ _ _, Keeps.into KVE.out (below_out3 (Below.refl _ _) (by omega) _ _ _)⟩
    · have HP := Lib.hid hp; clear hp
      have R := Lib.hid (show bookSell ⟨ss, k, ds⟩ ⟨id, day, 4, item, eq, ea, er⟩ = (0, ⟨issSs ss item eq, k, bkPostDs ds day (sellE ⟨id, day, 4, item, eq, ea, er⟩ y)⟩) by simp [bookSell, HR.out, ← HC.out, postB, HP.out])
      have ec := evCells (e := ⟨id, day, 4, item, eq, ea, er⟩) EV1.out; obtain ⟨y0, y1, y2, y3, y4, y5, y6⟩ := ec; simp only at y0 y1 y2 y3 y4 y5 y6; have y5a := cell_alloc y5
      have x0 := blk_at QV1.out (j := 0) rfl; have x1 := blk_at QV1.out (j := 1) rfl; have x2 := blk_at QV1.out (j := 2) rfl; have xf := blk_free QV1.out
      go_wp2_with fail
      clear x0 x1 x2 xf
      refine (specPostBk lo _ A1 n1 c1 (k) D1 m1 d1 (issSs ss item eq) ds day _ 4 4 _ 4 (sellE ⟨id, day, 4, item, eq, ea, er⟩ y) _ (HV1.out.below (below_then (below_box _ _) (below_box _ _))) (Nat.le_trans (Nat.le_trans hlo BV1.out.size) (below_then (below_box _ _) (below_box _ _)).size) OK.out hdn ((RS_new (by rfl)).alloc _) (RS_new2 (by rfl)) (by omega) (sellE_small _ _)).mono ?_; rw [HP.out, show okCode true = 0 from rfl]; rintro r w5 ⟨D5, m5, d5, rfl, h5, hb5⟩
      have b5 := Lib.hid (show Below V1.heap.size V1 w5 from below_then (below_then (below_box _ _) (below_box _ _)) hb5)
      have Q5 := Lib.hid (blk_keep b5.out QV1.out); have E5 := Lib.hid (blk_keep b5.out EV1.out); have Z5 := Lib.hid (blk_keep b5.out ZV1.out)
      have B5 := Lib.hid (BV1.out.trans (b5.out.mono (Nat.le_trans hlo BV1.out.size)))
      have K5 := Lib.hid (KV1.out.trans (Keeps.below b5.out))
      have H5 := Lib.hid (h5 rfl)
      clear h5 hb5 b5 y0 y1 y2 y3 y4 y5 y5a y6
      have x0 := blk_at Q5.out (j := 0) rfl; have x1 := blk_at Q5.out (j := 1) rfl; have x2 := blk_at Q5.out (j := 2) rfl; have xf := blk_free Q5.out
      go_upto_region 40 with fail
      obtain ⟨VE, hV⟩ : ∃ VE, VE = (((w5.setCell ⟨w.heap.size, 0, none⟩ (.slice A1 n1 c1)).setCell ⟨w.heap.size, 1, none⟩ (.int .i64 k)).setCell ⟨w.heap.size, 2, none⟩ (.slice D5 m5 d5)) := ⟨_, rfl⟩
      have QVE := Lib.hid (show VE.heap[w.heap.size]? = _ from hV ▸ blk_set3 Q5.out (.slice A1 n1 c1) (.int .i64 k) (.slice D5 m5 d5))
      have EVE := Lib.hid ((show VE.heap[w.heap.size + 1]? = _ from hV ▸ blk_set3_ne (by omega) (.slice A1 n1 c1) (.int .i64 k) (.slice D5 m5 d5)).trans E5.out)
      have ZVE := Lib.hid ((show VE.heap[w.heap.size + 1 + 1]? = _ from hV ▸ blk_set3_ne (by omega) (.slice A1 n1 c1) (.int .i64 k) (.slice D5 m5 d5)).trans Z5.out)
      have BVE := Lib.hid (show Below lo w VE from hV ▸ below_out3 B5.out hlo (.slice A1 n1 c1) (.int .i64 k) (.slice D5 m5 d5))
      have KVE := Lib.hid (show Keeps none w VE from hV ▸ Keeps.into K5.out (below_out3 (Below.refl _ _) (Nat.le_refl _) (.slice A1 n1 c1) (.int .i64 k) (.slice D5 m5 d5)))
      have HVE := Lib.hid (show BooksO VE lo VE.heap.size _ _ _ _ _ _ from hV ▸ (BooksO.out3 H5.out Q5.out (.slice A1 n1 c1) (.int .i64 k) (.slice D5 m5 d5)).top)
      rw [← hV]
      clear hV x0 x1 x2 xf
      have x0 := blk_at QVE.out (j := 0) rfl; have x1 := blk_at QVE.out (j := 1) rfl; have x2 := blk_at QVE.out (j := 2) rfl; have xf := blk_free QVE.out
      have z0 := blk_at ZVE.out (j := 0) rfl; have z1 := blk_at ZVE.out (j := 1) rfl; have z2 := blk_at ZVE.out (j := 2) rfl; have zf := blk_free ZVE.out
      go_wp2_with fail
      rw [R.out]
      refine bodyPost_ret (v := .tuple #[.agg #[.slice A1 n1 c1, .int .i64 k, .slice D5 m5 d5], .int .i64 0]) (by simp [results, Try.results57, go_sem, z0, z1, z2]) rfl ⟨A1, n1, c1, k, D5, m5, d5, rfl, fun _ => ⟨rfl, (BooksO.out3 HVE.out ZVE.out _ _ _).top⟩, below_out3 BVE.out (by omega) _ _ _, Keeps.into KVE.out (below_out3 (Below.refl _ _) (by omega) _ _ _)⟩
set_option maxRecDepth 100000 in
set_option maxHeartbeats 8000000 in
theorem specBookIss (lo hi2 : Nat) (sA : Option Addr) (sn sc : Nat) (dA : Option Addr) (dn dc : Nat) (b : Bk) (e : Ev) (w : World) (hbk : BooksO w lo hi2 (.slice sA sn sc) sn b.ss (.slice dA dn dc) dn b.ds) (hlo : lo ≤ w.heap.size) (hss : shsOk b.ss = true) (hok : docsSmall b.ds) (hdn : b.ds.length ≤ 1048576) (hwk : 0 ≤ b.k ∧ b.k ≤ 1000000000) (hk : e.kind = 2) (ha : e.a = 0) :
    Calls Try.prog 57 #[.agg #[.slice sA sn sc, .int .i64 b.k, .slice dA dn dc], evAgg e] w fun r w' => ∃ A n c kk D m d, r = .returned (.tuple #[.agg #[.slice A n c, .int .i64 kk, .slice D m d], .int .i64 (bookIss b e).1]) ∧
      ((bookIss b e).1 = 0 → kk = (bookIss b e).2.k ∧ BooksO w' lo w'.heap.size (.slice A n c) n (bookIss b e).2.ss (.slice D m d) m (bookIss b e).2.ds) ∧ Below lo w w' ∧ Keeps none w w' := by
  obtain ⟨ss, k, ds⟩ := b
  simp only at hbk hss hok hdn hwk ⊢
  obtain ⟨hwk1, hwk2⟩ := hwk
  obtain ⟨id, day, kind, item, eq, ea, er⟩ := e
  simp only at hk ha
  subst hk
  have b0 := Lib.hid (below_then (below_then (below_box w (Obj.cells #[.slice sA sn sc, .int .i64 k, .slice dA dn dc] 31)) (below_box _ (Obj.cells #[.int .i64 id, .int .i64 day, .int .i64 2, .string item, .int .i64 eq, .int .i64 ea, .int .i64 er] 44))) (below_box _ (Obj.cells #[.slice none 0 0, .int .i64 0, .slice none 0 0] 31)))
  have Q := Lib.hid (blk_alloc (blk_alloc (blk_new1 w (Obj.cells #[.slice sA sn sc, .int .i64 k, .slice dA dn dc] 31)) (Obj.cells #[.int .i64 id, .int .i64 day, .int .i64 2, .string item, .int .i64 eq, .int .i64 ea, .int .i64 er] 44)) (Obj.cells #[.slice none 0 0, .int .i64 0, .slice none 0 0] 31))
  have E := Lib.hid (blk_alloc (blk_new2 w (Obj.cells #[.slice sA sn sc, .int .i64 k, .slice dA dn dc] 31) (Obj.cells #[.int .i64 id, .int .i64 day, .int .i64 2, .string item, .int .i64 eq, .int .i64 ea, .int .i64 er] 44)) (Obj.cells #[.slice none 0 0, .int .i64 0, .slice none 0 0] 31))
  have Z := Lib.hid (blk_new3 w (Obj.cells #[.slice sA sn sc, .int .i64 k, .slice dA dn dc] 31) (Obj.cells #[.int .i64 id, .int .i64 day, .int .i64 2, .string item, .int .i64 eq, .int .i64 ea, .int .i64 er] 44) (Obj.cells #[.slice none 0 0, .int .i64 0, .slice none 0 0] 31))
  have HB := Lib.hid (hbk.below b0.out).top
  have OK := Lib.hid hok
  have B0 := Lib.hid (b0.out.mono hlo)
  have K0 := Lib.hid (Keeps.below (q := none) b0.out)
  have hW0 : ∃ W, W = (((w.alloc (Obj.cells #[.slice sA sn sc, .int .i64 k, .slice dA dn dc] 31)).alloc (Obj.cells #[.int .i64 id, .int .i64 day, .int .i64 2, .string item, .int .i64 eq, .int .i64 ea, .int .i64 er] 44)).alloc (Obj.cells #[.slice none 0 0, .int .i64 0, .slice none 0 0] 31)) := ⟨_, rfl⟩
  obtain ⟨W, hW⟩ := hW0
  rw [← hW] at b0 Q E Z HB B0 K0
  have zW : lo ≤ W.heap.size := Nat.le_trans hlo B0.out.size
  clear hbk hok b0
  clear ha
  go_enter Try.func57, Try.ntmps57
  go_wp2_with fail
  rw [← hW]
  clear hW
  cases hr : issOk ss item eq
  · have HR := Lib.hid hr; clear hr
    have R := Lib.hid (show (bookIss ⟨ss, k, ds⟩ ⟨id, day, 2, item, eq, ea, er⟩).1 = 2 by simp [bookIss, HR.out])
    refine (specIssueBk lo _ sA sn sc k dA dn dc ss ds ⟨id, day, 2, item, eq, ea, er⟩ W HB.out zW hss).mono ?_; simp only; rw [HR.out, show fewCode false = 2 from rfl]; rintro r w1 ⟨A1, n1, c1, D1, m1, d1, y, rfl, h1, hb1, hk1⟩
    have Q1 := Lib.hid (hk1 _ _ _ (.inr ⟨rfl, by simp⟩) Q.out); have E1 := Lib.hid (hk1 _ _ _ (.inl rfl) E.out); have Z1 := Lib.hid (hk1 _ _ _ (.inr ⟨rfl, by simp⟩) Z.out)
    have B1 := Lib.hid (B0.out.trans hb1); have K1 := Lib.hid (K0.out.trans hk1)
    clear h1 hb1 hk1
    have x0 := blk_at Q1.out (j := 0) rfl; have x1 := blk_at Q1.out (j := 1) rfl; have x2 := blk_at Q1.out (j := 2) rfl; have xf := blk_free Q1.out
    go_upto_region 31 with fail
    obtain ⟨V1, hV⟩ : ∃ V1, V1 = (((w1.setCell ⟨w.heap.size, 0, none⟩ (.slice A1 n1 c1)).setCell ⟨w.heap.size, 1, none⟩ (.int .i64 k)).setCell ⟨w.heap.size, 2, none⟩ (.slice D1 m1 d1)) := ⟨_, rfl⟩
    have QV1 := Lib.hid (show V1.heap[w.heap.size]? = _ from hV ▸ blk_set3 Q1.out (.slice A1 n1 c1) (.int .i64 k) (.slice D1 m1 d1))
    have EV1 := Lib.hid ((show V1.heap[w.heap.size + 1]? = _ from hV ▸ blk_set3_ne (by omega) (.slice A1 n1 c1) (.int .i64 k) (.slice D1 m1 d1)).trans E1.out)
    have ZV1 := Lib.hid ((show V1.heap[w.heap.size + 1 + 1]? = _ from hV ▸ blk_set3_ne (by omega) (.slice A1 n1 c1) (.int .i64 k) (.slice D1 m1 d1)).trans Z1.out)
    have BV1 := Lib.hid (show Below lo w V1 from hV ▸ below_out3 B1.out hlo (.slice A1 n1 c1) (.int .i64 k) (.slice D1 m1 d1))
    have KV1 := Lib.hid (show Keeps none w V1 from hV ▸ Keeps.into K1.out (below_out3 (Below.refl _ _) (Nat.le_refl _) (.slice A1 n1 c1) (.int .i64 k) (.slice D1 m1 d1)))
    rw [← hV]
    clear hV x0 x1 x2 xf
    have x0 := blk_at QV1.out (j := 0) rfl; have x1 := blk_at QV1.out (j := 1) rfl; have x2 := blk_at QV1.out (j := 2) rfl; have xf := blk_free QV1.out
    have z0 := blk_at ZV1.out (j := 0) rfl; have z1 := blk_at ZV1.out (j := 1) rfl; have z2 := blk_at ZV1.out (j := 2) rfl; have zf := blk_free ZV1.out
    go_wp2_with fail
    rw [R.out]
    refine bodyPost_ret (v := .tuple #[.agg #[.slice A1 n1 c1, .int .i64 k, .slice D1 m1 d1], .int .i64 2]) (by simp [results, Try.results57, go_sem, z0, z1, z2]) rfl ⟨A1, n1, c1, k, D1, m1, d1, rfl, (fun h => by first | (exact absurd h (by decide)) | (cases h) | (exact absurd h ‹_›)), below_out3 BV1.out (by omega) _ _ _, Keeps.into KV1.out (below_out3 (Below.refl _ _) (by omega) _ _ _)⟩
  · have HR := Lib.hid hr; clear hr
    refine (specIssueBk lo _ sA sn sc k dA dn dc ss ds ⟨id, day, 2, item, eq, ea, er⟩ W HB.out zW hss).mono ?_; simp only; rw [HR.out, show fewCode true = 0 from rfl]; rintro r w1 ⟨A1, n1, c1, D1, m1, d1, y, rfl, h1, hb1, hk1⟩
    have Q1 := Lib.hid (hk1 _ _ _ (.inr ⟨rfl, by simp⟩) Q.out); have E1 := Lib.hid (hk1 _ _ _ (.inl rfl) E.out); have Z1 := Lib.hid (hk1 _ _ _ (.inr ⟨rfl, by simp⟩) Z.out)
    have B1 := Lib.hid (B0.out.trans hb1); have K1 := Lib.hid (K0.out.trans hk1)
    obtain ⟨hc, hx1⟩ := h1 rfl
    have H1 := Lib.hid hx1
    have yb1 : 0 ≤ y := by rw [hc]; exact (issueCost_bd24 _ _).1
    have yb2 : y ≤ 24000000000 := by rw [hc]; exact (issueCost_bd24 _ _).2
    have HC := Lib.hid hc
    clear hc hx1
    clear h1 hb1 hk1
    have x0 := blk_at Q1.out (j := 0) rfl; have x1 := blk_at Q1.out (j := 1) rfl; have x2 := blk_at Q1.out (j := 2) rfl; have xf := blk_free Q1.out
    go_upto_region 31 with fail
    obtain ⟨V1, hV⟩ : ∃ V1, V1 = (((w1.setCell ⟨w.heap.size, 0, none⟩ (.slice A1 n1 c1)).setCell ⟨w.heap.size, 1, none⟩ (.int .i64 k)).setCell ⟨w.heap.size, 2, none⟩ (.slice D1 m1 d1)) := ⟨_, rfl⟩
    have QV1 := Lib.hid (show V1.heap[w.heap.size]? = _ from hV ▸ blk_set3 Q1.out (.slice A1 n1 c1) (.int .i64 k) (.slice D1 m1 d1))
    have EV1 := Lib.hid ((show V1.heap[w.heap.size + 1]? = _ from hV ▸ blk_set3_ne (by omega) (.slice A1 n1 c1) (.int .i64 k) (.slice D1 m1 d1)).trans E1.out)
    have ZV1 := Lib.hid ((show V1.heap[w.heap.size + 1 + 1]? = _ from hV ▸ blk_set3_ne (by omega) (.slice A1 n1 c1) (.int .i64 k) (.slice D1 m1 d1)).trans Z1.out)
    have BV1 := Lib.hid (show Below lo w V1 from hV ▸ below_out3 B1.out hlo (.slice A1 n1 c1) (.int .i64 k) (.slice D1 m1 d1))
    have KV1 := Lib.hid (show Keeps none w V1 from hV ▸ Keeps.into K1.out (below_out3 (Below.refl _ _) (Nat.le_refl _) (.slice A1 n1 c1) (.int .i64 k) (.slice D1 m1 d1)))
    have HV1 := Lib.hid (show BooksO V1 lo V1.heap.size _ _ _ _ _ _ from hV ▸ (BooksO.out3 H1.out Q1.out (.slice A1 n1 c1) (.int .i64 k) (.slice D1 m1 d1)).top)
    rw [← hV]
    clear hV x0 x1 x2 xf
    have wk : IntKind.i64.wrap (k + y) = k + y := IntWalk.i64_in _ (by omega)
    have ec := evCells (e := ⟨id, day, 2, item, eq, ea, er⟩) EV1.out; obtain ⟨y0, y1, y2, y3, y4, y5, y6⟩ := ec; simp only at y0 y1 y2 y3 y4 y5 y6; have y5a := cell_alloc y5
    have x0 := blk_at QV1.out (j := 0) rfl; have x1 := blk_at QV1.out (j := 1) rfl; have x2 := blk_at QV1.out (j := 2) rfl; have xf := blk_free QV1.out
    go_upto_region 33 with fail
    clear x0 x1 x2 xf y0 y1 y2 y3 y4 y5 y5a y6
    obtain ⟨V2, hV⟩ : ∃ V2, V2 = V1.setCell ⟨w.heap.size, 1, none⟩ (.int .i64 (k + y)) := ⟨_, rfl⟩
    have QV2 := Lib.hid (show V2.heap[w.heap.size]? = some (.cells #[.slice A1 n1 c1, .int .i64 (k + y), .slice D1 m1 d1] 31 (0, 0)) by rw [hV]; exact heap_setCell_same V1 w.heap.size 1 _ _ (.int .i64 (k + y)) QV1.out)
    have EV2 := Lib.hid ((show V2.heap[w.heap.size + 1]? = _ by rw [hV]; exact Below.heap_setCell _ _ _ _ (Nat.succ_ne_self _)).trans EV1.out)
    have ZV2 := Lib.hid ((show V2.heap[w.heap.size + 1 + 1]? = V1.heap[w.heap.size + 1 + 1]? by rw [hV]; exact Below.heap_setCell _ _ _ _ (by simp only; omega)).trans ZV1.out)
    have BV2 := Lib.hid (show Below lo w V2 by rw [hV]; exact BV1.out.setCell (p := ⟨w.heap.size, 1, none⟩) hlo (.int .i64 (k + y)))
    have KV2 := Lib.hid (show Keeps none w V2 by rw [hV]; exact Keeps.into KV1.out ((Below.refl _ _).setCell (p := ⟨w.heap.size, 1, none⟩) (Nat.le_refl _) (.int .i64 (k + y))))
    have HV2 := Lib.hid (show BooksO V2 lo V2.heap.size _ _ _ _ _ _ by rw [hV]; exact (HV1.out.setq (j := 1) (u := .int .i64 (k + y)) QV1.out rfl).top)
    rw [← hV]
    clear hV
    cases hp : bkPostOk ds day (issE y)
    · have HP := Lib.hid hp; clear hp
      have R := Lib.hid (show (bookIss ⟨ss, k, ds⟩ ⟨id, day, 2, item, eq, ea, er⟩).1 = 3 by
        simp only [bookIss, HR.out, ← HC.out, if_true]
        split
        · rfl
        · simp [postB, HP.out])
      have ec := evCells (e := ⟨id, day, 2, item, eq, ea, er⟩) EV2.out; obtain ⟨y0, y1, y2, y3, y4, y5, y6⟩ := ec; simp only at y0 y1 y2 y3 y4 y5 y6; have y5a := cell_alloc y5
      have x0 := blk_at QV2.out (j := 0) rfl; have x1 := blk_at QV2.out (j := 1) rfl; have x2 := blk_at QV2.out (j := 2) rfl; have xf := blk_free QV2.out
      go_wp2_with fail
      clear x0 x1 x2 xf
      refine (specPostBk lo _ A1 n1 c1 (k + y) D1 m1 d1 (issSs ss item eq) ds day _ 2 2 _ 2 (issE y) _ (HV2.out.below (below_then (below_box _ _) (below_box _ _))) (Nat.le_trans (Nat.le_trans hlo BV2.out.size) (below_then (below_box _ _) (below_box _ _)).size) OK.out hdn ((RS_new (by rfl)).alloc _) (RS_new2 (by rfl)) (by omega) (issE_small _)).mono ?_; rw [HP.out, show okCode false = 3 from rfl]; rintro r w5 ⟨D5, m5, d5, rfl, h5, hb5⟩
      have b5 := Lib.hid (show Below V2.heap.size V2 w5 from below_then (below_then (below_box _ _) (below_box _ _)) hb5)
      have Q5 := Lib.hid (blk_keep b5.out QV2.out); have E5 := Lib.hid (blk_keep b5.out EV2.out); have Z5 := Lib.hid (blk_keep b5.out ZV2.out)
      have B5 := Lib.hid (BV2.out.trans (b5.out.mono (Nat.le_trans hlo BV2.out.size)))
      have K5 := Lib.hid (KV2.out.trans (Keeps.below b5.out))
      clear h5 hb5 b5 y0 y1 y2 y3 y4 y5 y5a y6
      have x0 := blk_at Q5.out (j := 0) rfl; have x1 := blk_at Q5.out (j := 1) rfl; have x2 := blk_at Q5.out (j := 2) rfl; have xf := blk_free Q5.out
      go_upto_region 34 with fail
      obtain ⟨VE, hV⟩ : ∃ VE, VE = (((w5.setCell ⟨w.heap.size, 0, none⟩ (.slice A1 n1 c1)).setCell ⟨w.heap.size, 1, none⟩ (.int .i64 (k + y))).setCell ⟨w.heap.size, 2, none⟩ (.slice D5 m5 d5)) := ⟨_, rfl⟩
      have QVE := Lib.hid (show VE.heap[w.heap.size]? = _ from hV ▸ blk_set3 Q5.out (.slice A1 n1 c1) (.int .i64 (k + y)) (.slice D5 m5 d5))
      have EVE := Lib.hid ((show VE.heap[w.heap.size + 1]? = _ from hV ▸ blk_set3_ne (by omega) (.slice A1 n1 c1) (.int .i64 (k + y)) (.slice D5 m5 d5)).trans E5.out)
      have ZVE := Lib.hid ((show VE.heap[w.heap.size + 1 + 1]? = _ from hV ▸ blk_set3_ne (by omega) (.slice A1 n1 c1) (.int .i64 (k + y)) (.slice D5 m5 d5)).trans Z5.out)
      have BVE := Lib.hid (show Below lo w VE from hV ▸ below_out3 B5.out hlo (.slice A1 n1 c1) (.int .i64 (k + y)) (.slice D5 m5 d5))
      have KVE := Lib.hid (show Keeps none w VE from hV ▸ Keeps.into K5.out (below_out3 (Below.refl _ _) (Nat.le_refl _) (.slice A1 n1 c1) (.int .i64 (k + y)) (.slice D5 m5 d5)))
      rw [← hV]
      clear hV x0 x1 x2 xf
      have x0 := blk_at QVE.out (j := 0) rfl; have x1 := blk_at QVE.out (j := 1) rfl; have x2 := blk_at QVE.out (j := 2) rfl; have xf := blk_free QVE.out
      have z0 := blk_at ZVE.out (j := 0) rfl; have z1 := blk_at ZVE.out (j := 1) rfl; have z2 := blk_at ZVE.out (j := 2) rfl; have zf := blk_free ZVE.out
      go_wp2_with fail
      rw [R.out]
      refine bodyPost_ret (v := .tuple #[.agg #[.slice A1 n1 c1, .int .i64 (k + y), .slice D5 m5 d5], .int .i64 3]) (by simp [results, Try.results57, go_sem, z0, z1, z2]) rfl ⟨A1, n1, c1, (k + y), D5, m5, d5, rfl, (fun h => by first | (exact absurd h (by decide)) | (cases h) | (exact absurd h ‹_›)), below_out3 BVE.out (by omega) _ _ _, Keeps.into KVE.out (below_out3 (Below.refl _ _) (by omega) _ _ _)⟩
    · have HP := Lib.hid hp; clear hp
      have ec := evCells (e := ⟨id, day, 2, item, eq, ea, er⟩) EV2.out; obtain ⟨y0, y1, y2, y3, y4, y5, y6⟩ := ec; simp only at y0 y1 y2 y3 y4 y5 y6; have y5a := cell_alloc y5
      have x0 := blk_at QV2.out (j := 0) rfl; have x1 := blk_at QV2.out (j := 1) rfl; have x2 := blk_at QV2.out (j := 2) rfl; have xf := blk_free QV2.out
      go_wp2_with fail
      clear x0 x1 x2 xf
      refine (specPostBk lo _ A1 n1 c1 (k + y) D1 m1 d1 (issSs ss item eq) ds day _ 2 2 _ 2 (issE y) _ (HV2.out.below (below_then (below_box _ _) (below_box _ _))) (Nat.le_trans (Nat.le_trans hlo BV2.out.size) (below_then (below_box _ _) (below_box _ _)).size) OK.out hdn ((RS_new (by rfl)).alloc _) (RS_new2 (by rfl)) (by omega) (issE_small _)).mono ?_; rw [HP.out, show okCode true = 0 from rfl]; rintro r w5 ⟨D5, m5, d5, rfl, h5, hb5⟩
      have b5 := Lib.hid (show Below V2.heap.size V2 w5 from below_then (below_then (below_box _ _) (below_box _ _)) hb5)
      have Q5 := Lib.hid (blk_keep b5.out QV2.out); have E5 := Lib.hid (blk_keep b5.out EV2.out); have Z5 := Lib.hid (blk_keep b5.out ZV2.out)
      have B5 := Lib.hid (BV2.out.trans (b5.out.mono (Nat.le_trans hlo BV2.out.size)))
      have K5 := Lib.hid (KV2.out.trans (Keeps.below b5.out))
      have H5 := Lib.hid (h5 rfl)
      clear h5 hb5 b5 y0 y1 y2 y3 y4 y5 y5a y6
      have x0 := blk_at Q5.out (j := 0) rfl; have x1 := blk_at Q5.out (j := 1) rfl; have x2 := blk_at Q5.out (j := 2) rfl; have xf := blk_free Q5.out
      go_upto_region 34 with fail
      obtain ⟨VE, hV⟩ : ∃ VE, VE = (((w5.setCell ⟨w.heap.size, 0, none⟩ (.slice A1 n1 c1)).setCell ⟨w.heap.size, 1, none⟩ (.int .i64 (k + y))).setCell ⟨w.heap.size, 2, none⟩ (.slice D5 m5 d5)) := ⟨_, rfl⟩
      have QVE := Lib.hid (show VE.heap[w.heap.size]? = _ from hV ▸ blk_set3 Q5.out (.slice A1 n1 c1) (.int .i64 (k + y)) (.slice D5 m5 d5))
      have EVE := Lib.hid ((show VE.heap[w.heap.size + 1]? = _ from hV ▸ blk_set3_ne (by omega) (.slice A1 n1 c1) (.int .i64 (k + y)) (.slice D5 m5 d5)).trans E5.out)
      have ZVE := Lib.hid ((show VE.heap[w.heap.size + 1 + 1]? = _ from hV ▸ blk_set3_ne (by omega) (.slice A1 n1 c1) (.int .i64 (k + y)) (.slice D5 m5 d5)).trans Z5.out)
      have BVE := Lib.hid (show Below lo w VE from hV ▸ below_out3 B5.out hlo (.slice A1 n1 c1) (.int .i64 (k + y)) (.slice D5 m5 d5))
      have KVE := Lib.hid (show Keeps none w VE from hV ▸ Keeps.into K5.out (below_out3 (Below.refl _ _) (Nat.le_refl _) (.slice A1 n1 c1) (.int .i64 (k + y)) (.slice D5 m5 d5)))
      have HVE := Lib.hid (show BooksO VE lo VE.heap.size _ _ _ _ _ _ from hV ▸ (BooksO.out3 H5.out Q5.out (.slice A1 n1 c1) (.int .i64 (k + y)) (.slice D5 m5 d5)).top)
      rw [← hV]
      clear hV x0 x1 x2 xf
      by_cases hmx : (1000000000 : Int) < k + y
      · have R := Lib.hid (show (bookIss ⟨ss, k, ds⟩ ⟨id, day, 2, item, eq, ea, er⟩).1 = 3 by
          simp only [bookIss, HR.out, ← HC.out, if_true]
          rw [if_pos hmx])
        have x0 := blk_at QVE.out (j := 0) rfl; have x1 := blk_at QVE.out (j := 1) rfl; have x2 := blk_at QVE.out (j := 2) rfl; have xf := blk_free QVE.out
        have z0 := blk_at ZVE.out (j := 0) rfl; have z1 := blk_at ZVE.out (j := 1) rfl; have z2 := blk_at ZVE.out (j := 2) rfl; have zf := blk_free ZVE.out
        go_wp2_with fail
        rw [R.out]
        refine bodyPost_ret (v := .tuple #[.agg #[.slice A1 n1 c1, .int .i64 (k + y), .slice D5 m5 d5], .int .i64 3]) (by simp [results, Try.results57, go_sem, z0, z1, z2]) rfl ⟨A1, n1, c1, (k + y), D5, m5, d5, rfl, (fun h => by first | (exact absurd h (by decide)) | (cases h) | (exact absurd h ‹_›)), below_out3 BVE.out (by omega) _ _ _, Keeps.into KVE.out (below_out3 (Below.refl _ _) (by omega) _ _ _)⟩
      · have R := Lib.hid (show (bookIss ⟨ss, k, ds⟩ ⟨id, day, 2, item, eq, ea, er⟩) = (0, ⟨issSs ss item eq, k + y, bkPostDs ds day (issE y)⟩) by
          simp only [bookIss, HR.out, ← HC.out, if_true]
          rw [if_neg hmx]
          simp [postB, HP.out])
        have x0 := blk_at QVE.out (j := 0) rfl; have x1 := blk_at QVE.out (j := 1) rfl; have x2 := blk_at QVE.out (j := 2) rfl; have xf := blk_free QVE.out
        have z0 := blk_at ZVE.out (j := 0) rfl; have z1 := blk_at ZVE.out (j := 1) rfl; have z2 := blk_at ZVE.out (j := 2) rfl; have zf := blk_free ZVE.out
        go_wp2_with fail
        rw [R.out]
        refine bodyPost_ret (v := .tuple #[.agg #[.slice A1 n1 c1, .int .i64 (k + y), .slice D5 m5 d5], .int .i64 0]) (by simp [results, Try.results57, go_sem, z0, z1, z2]) rfl ⟨A1, n1, c1, (k + y), D5, m5, d5, rfl, fun _ => ⟨rfl, (BooksO.out3 HVE.out ZVE.out _ _ _).top⟩, below_out3 BVE.out (by omega) _ _ _, Keeps.into KVE.out (below_out3 (Below.refl _ _) (by omega) _ _ _)⟩
set_option maxRecDepth 100000 in
set_option maxHeartbeats 8000000 in
theorem specBookLate (lo hi2 : Nat) (sA : Option Addr) (sn sc : Nat) (dA : Option Addr) (dn dc : Nat) (b : Bk) (e : Ev) (w : World) (hbk : BooksO w lo hi2 (.slice sA sn sc) sn b.ss (.slice dA dn dc) dn b.ds) (hlo : lo ≤ w.heap.size) (hss : shsOk b.ss = true) (hok : docsSmall b.ds) (hdn : b.ds.length ≤ 1048576) (hwk : 0 ≤ b.k ∧ b.k ≤ 1000000000) (hk : e.kind = 5) (ha1 : -100000 ≤ e.a) (ha2 : e.a ≤ 100000) :
    Calls Try.prog 57 #[.agg #[.slice sA sn sc, .int .i64 b.k, .slice dA dn dc], evAgg e] w fun r w' => ∃ A n c kk D m d, r = .returned (.tuple #[.agg #[.slice A n c, .int .i64 kk, .slice D m d], .int .i64 (bookLate b e).1]) ∧
      ((bookLate b e).1 = 0 → kk = (bookLate b e).2.k ∧ BooksO w' lo w'.heap.size (.slice A n c) n (bookLate b e).2.ss (.slice D m d) m (bookLate b e).2.ds) ∧ Below lo w w' ∧ Keeps none w w' := by
  obtain ⟨ss, k, ds⟩ := b
  simp only at hbk hss hok hdn hwk ⊢
  obtain ⟨hwk1, hwk2⟩ := hwk
  obtain ⟨id, day, kind, item, eq, ea, er⟩ := e
  simp only at hk ha1 ha2
  subst hk
  have b0 := Lib.hid (below_then (below_then (below_box w (Obj.cells #[.slice sA sn sc, .int .i64 k, .slice dA dn dc] 31)) (below_box _ (Obj.cells #[.int .i64 id, .int .i64 day, .int .i64 5, .string item, .int .i64 eq, .int .i64 ea, .int .i64 er] 44))) (below_box _ (Obj.cells #[.slice none 0 0, .int .i64 0, .slice none 0 0] 31)))
  have Q := Lib.hid (blk_alloc (blk_alloc (blk_new1 w (Obj.cells #[.slice sA sn sc, .int .i64 k, .slice dA dn dc] 31)) (Obj.cells #[.int .i64 id, .int .i64 day, .int .i64 5, .string item, .int .i64 eq, .int .i64 ea, .int .i64 er] 44)) (Obj.cells #[.slice none 0 0, .int .i64 0, .slice none 0 0] 31))
  have E := Lib.hid (blk_alloc (blk_new2 w (Obj.cells #[.slice sA sn sc, .int .i64 k, .slice dA dn dc] 31) (Obj.cells #[.int .i64 id, .int .i64 day, .int .i64 5, .string item, .int .i64 eq, .int .i64 ea, .int .i64 er] 44)) (Obj.cells #[.slice none 0 0, .int .i64 0, .slice none 0 0] 31))
  have Z := Lib.hid (blk_new3 w (Obj.cells #[.slice sA sn sc, .int .i64 k, .slice dA dn dc] 31) (Obj.cells #[.int .i64 id, .int .i64 day, .int .i64 5, .string item, .int .i64 eq, .int .i64 ea, .int .i64 er] 44) (Obj.cells #[.slice none 0 0, .int .i64 0, .slice none 0 0] 31))
  have HB := Lib.hid (hbk.below b0.out).top
  have OK := Lib.hid hok
  have B0 := Lib.hid (b0.out.mono hlo)
  have K0 := Lib.hid (Keeps.below (q := none) b0.out)
  have hW0 : ∃ W, W = (((w.alloc (Obj.cells #[.slice sA sn sc, .int .i64 k, .slice dA dn dc] 31)).alloc (Obj.cells #[.int .i64 id, .int .i64 day, .int .i64 5, .string item, .int .i64 eq, .int .i64 ea, .int .i64 er] 44)).alloc (Obj.cells #[.slice none 0 0, .int .i64 0, .slice none 0 0] 31)) := ⟨_, rfl⟩
  obtain ⟨W, hW⟩ := hW0
  rw [← hW] at b0 Q E Z HB B0 K0
  have zW : lo ≤ W.heap.size := Nat.le_trans hlo B0.out.size
  clear hbk hok b0
  have n12 : sn ≤ 12 := by rw [← HB.out.shelves.len]; exact shsOk_len hss
  have SG := Lib.hid (shGood_lays hss item)
  have ec := evCells (e := ⟨id, day, 5, item, eq, ea, er⟩) E.out; obtain ⟨y0, y1, y2, y3, y4, y5, y6⟩ := ec; simp only at y0 y1 y2 y3 y4 y5 y6; have y5a := cell_alloc y5
  have x0 := blk_at Q.out (j := 0) rfl; have x1 := blk_at Q.out (j := 1) rfl; have x2 := blk_at Q.out (j := 2) rfl; have xf := blk_free Q.out
  go_enter Try.func57, Try.ntmps57
  go_wp2_with fail
  rw [← hW]
  clear hW x0 x1 x2 xf y0 y1 y2 y3 y4 y5 y5a y6
  refine (specShelfOf _ _ _ _ _ _ _ ss _ W HB.out.shelves (by omega)).mono ?_; rintro e' V ⟨rfl, B1⟩
  have QV := Lib.hid (blk_keep B1 Q.out); have EV := Lib.hid (blk_keep B1 E.out); have ZV := Lib.hid (blk_keep B1 Z.out)
  have HV := Lib.hid (HB.out.below B1).top
  have BV := Lib.hid (B0.out.trans (B1.mono zW)); have KV := Lib.hid (K0.out.trans (Keeps.below B1))
  clear B1 E Q Z HB B0 K0
  have zV : lo ≤ V.heap.size := Nat.le_trans hlo BV.out.size
  rcases shelfAt_cases ss item with ⟨h0, _⟩ | ⟨p, x, h0, hx, he, _⟩
  · have RL := late_none h0 er ea
    have R := Lib.hid (show (bookLate ⟨ss, k, ds⟩ ⟨id, day, 5, item, eq, ea, er⟩).1 = 4 by simp [bookLate, RL])
    clear RL
    rw [h0]
    clear h0
    go_wp2_with fail
    refine wp_loop_once ?_
    have x0 := blk_at QV.out (j := 0) rfl; have x1 := blk_at QV.out (j := 1) rfl; have x2 := blk_at QV.out (j := 2) rfl; have xf := blk_free QV.out
    have z0 := blk_at ZV.out (j := 0) rfl; have z1 := blk_at ZV.out (j := 1) rfl; have z2 := blk_at ZV.out (j := 2) rfl; have zf := blk_free ZV.out
    go_wp2_with fail
    rw [R.out]
    refine bodyPost_ret (v := .tuple #[.agg #[.slice sA sn sc, .int .i64 k, .slice dA dn dc], .int .i64 4]) (by simp [results, Try.results57, go_sem, z0, z1, z2]) rfl ⟨sA, sn, sc, k, dA, dn, dc, rfl, (fun h => by first | (exact absurd h (by decide)) | (cases h) | (exact absurd h ‹_›)), below_out3 BV.out (by omega) _ _ _, Keeps.into KV.out (below_out3 (Below.refl _ _) (by omega) _ _ _)⟩
  · have hpm : p < sn := by rw [← HV.out.shelves.len]; exact (List.getElem?_eq_some_iff.1 hx).1
    have SP := shGet_at h0 hx
    have IX := Lib.hid (late_at h0 hx er)
    have RK := Lib.hid (show lateCode ss item er ea = if lastTo x.ids er x.ids.length < 0 then 4 else if lateOk x.lays (lastTo x.ids er x.ids.length) ea then 0 else 2 by rw [lateCode, IX.out, SP])
    have RC := Lib.hid (show lateCost ss item er ea = lateGone x.lays (lastTo x.ids er x.ids.length) ea by rw [lateCost, IX.out, SP])
    have RSS := Lib.hid (show lateSs ss item er ea = ss.set p ⟨x.item, x.ids, lateOut x.lays (lastTo x.ids er x.ids.length) ea⟩ by rw [lateSs, IX.out, SP, h0, ← he]; rfl)
    have HX := Lib.hid hx
    obtain ⟨sg1, sg2⟩ := SG.out
    rw [SP] at sg1 sg2
    rw [h0]
    clear h0 hx he SP SG IX
    obtain ⟨us, hus, SO⟩ := HV.out
    have US := Lib.hid hus; clear hus
    obtain ⟨g, rfl, hg1, hg2, ⟨cs, hcs⟩, hgf, s, iA, iC, lA, lC, hs, c0, c1, c2, oi, rl, RELAY, _⟩ := SO.shelf hpm zV
    rw [HX.out] at hs
    obtain rfl := Option.some.inj hs
    have RL := Lib.hid RELAY
    clear hs RELAY
    have i0 : (0 : Int) ≤ p := by omega
    have i2 : (p : Int) < sn := by omega
    have ri := RS.of_own oi
    obtain ⟨n, hn⟩ : ∃ n, n = x.ids.length := ⟨_, rfl⟩
    rw [← hn] at c1 ri RK RC RSS sg2
    clear hn
    go_wp2_with fail
    go_loopw [9, 10] (fun t i wr => ∃ j : Nat, j ≤ n ∧ i = .int .i64 j ∧ t = .int .i64 (lastTo x.ids er j) ∧ Below V.heap.size V wr) (fun _ i _ => n - (intOf i).toNat)
    case atStart => exact ⟨0, Nat.zero_le _, rfl, rfl, Below.refl _ _⟩
    case round =>
      obtain ⟨j, hj, rfl, rfl, hb⟩ := hrel
      have q0 := blk_at (blk_keep hb QV.out) (j := 0) rfl
      have c1 := cell_keep hb c1
      have j1 : (0 : Int) ≤ j := by omega
      by_cases hlt : j < n
      · obtain ⟨g2, off2, hA, y, hy, cy⟩ := (ri.below hb).intAt hlt
        subst hA
        have HY := Lib.hid hy; clear hy
        have e6 := (evCells (e := ⟨id, day, 5, item, eq, ea, er⟩) (blk_keep hb EV.out)).2.2.2.2.2.2
        simp only at e6
        have j2 : (j : Int) < n := by omega
        by_cases hr : y = er
        · have HH := Lib.hid (lastTo_hit HY.out hr)
          subst hr
          go_wp2_with fail
          go_quiet (fail)
          go_wp2_with fail
          go_roundw
          case rel => exact ⟨j + 1, by omega, by go_num, by rw [HH.out], below_drewN hb nq⟩
          case measure => simp [intOf]; omega
        · have HH := Lib.hid (lastTo_miss HY.out hr)
          have hrb : (y == er) = false := by simpa using hr
          go_wp2_with fail
          go_quiet (fail)
          go_wp2_with fail
          go_roundw
          case rel => exact ⟨j + 1, by omega, by go_num, by rw [HH.out], below_drewN hb nq⟩
          case measure => simp [intOf]; omega
      · obtain rfl : n = j := by omega
        have bd := lastTo_bd x.ids er n
        obtain ⟨ix, hix⟩ : ∃ ix, ix = lastTo x.ids er n := ⟨_, rfl⟩
        rw [← hix] at RK RC RSS bd ⊢
        clear hix
        obtain ⟨bd1, bd2⟩ := bd
        have QR := Lib.hid (blk_keep hb QV.out); have ER := Lib.hid (blk_keep hb EV.out); have ZR := Lib.hid (blk_keep hb ZV.out)
        have BR := Lib.hid (BV.out.trans (hb.mono zV)); have KR := Lib.hid (KV.out.trans (Keeps.below hb))
        by_cases hneg : ix < 0
        · rw [if_pos hneg] at RK
          have R := Lib.hid (show (bookLate ⟨ss, k, ds⟩ ⟨id, day, 5, item, eq, ea, er⟩).1 = 4 by simp [bookLate, RK.out])
          clear q0
          have x0 := blk_at QR.out (j := 0) rfl; have x1 := blk_at QR.out (j := 1) rfl; have x2 := blk_at QR.out (j := 2) rfl; have xf := blk_free QR.out
          have z0 := blk_at ZR.out (j := 0) rfl; have z1 := blk_at ZR.out (j := 1) rfl; have z2 := blk_at ZR.out (j := 2) rfl; have zf := blk_free ZR.out
          go_wp2_with fail
          rw [R.out]
          refine bodyPost_ret (v := .tuple #[.agg #[.slice (some ⟨g, 0, none⟩) sn sc, .int .i64 k, .slice dA dn dc], .int .i64 4]) (by simp [results, Try.results57, go_sem, z0, z1, z2]) rfl ⟨(some ⟨g, 0, none⟩), sn, sc, k, dA, dn, dc, rfl, (fun h => by first | (exact absurd h (by decide)) | (cases h) | (exact absurd h ‹_›)), below_out3 BR.out (by omega) _ _ _, Keeps.into KR.out (below_out3 (Below.refl _ _) (by omega) _ _ _)⟩
        · rw [if_neg hneg] at RK
          have c2 := cell_keep hb c2
          have e5 := (evCells (e := ⟨id, day, 5, item, eq, ea, er⟩) ER.out).2.2.2.2.2.1
          simp only at e5
          have rl := rl.below hb
          have zr := hb.size
          cases ha : lateOk x.lays ix ea
          all_goals
            have HA := Lib.hid ha; clear ha
            rw [HA.out] at RK
            go_wp2_with fail
            go_region_held3 (fun w' => w'.cell? ⟨w.heap.size, 0, none⟩ = some (.slice (some ⟨g, 0, none⟩) sn sc) ∧ w'.cell? ⟨g, p * 3 + 2, none⟩ = some (.slice lA x.lays.length lC) ∧ w'.cell? ⟨w.heap.size + 1, 5, none⟩ = some (.int .i64 ea))
              (first
                | go_keep
                | (go_split_ands; exact ⟨cell_keep hb2 q0, cell_keep hb2 c2, cell_keep hb2 e5⟩))
              (first | (go_at_call 82; refine (specAddLate _ _ _ x.lays _ _ wr.drew (rl.drewN 1) (by omega)).mono ?_; rw [HA.out]; rintro e' w2 ⟨A2, c2', rfl, o2, hb2⟩))
            have b2 := Lib.hid (show Below wr.heap.size wr w2 from (Below.refl _ _).drew.trans hb2)
            have Q2 := Lib.hid (blk_keep b2.out QR.out); have E2 := Lib.hid (blk_keep b2.out ER.out); have Z2 := Lib.hid (blk_keep b2.out ZR.out)
            have B2 := Lib.hid (BR.out.trans (b2.out.mono (Nat.le_trans zV zr))); have K2 := Lib.hid (KR.out.trans (Keeps.below b2.out))
          · have R := Lib.hid (show (bookLate ⟨ss, k, ds⟩ ⟨id, day, 5, item, eq, ea, er⟩).1 = 2 by simp [bookLate, RK.out])
            clear q0 c0 c1 c2 e5 o2 hb2 oi rl
            have x0 := blk_at Q2.out (j := 0) rfl; have x1 := blk_at Q2.out (j := 1) rfl; have x2 := blk_at Q2.out (j := 2) rfl; have xf := blk_free Q2.out
            have z0 := blk_at Z2.out (j := 0) rfl; have z1 := blk_at Z2.out (j := 1) rfl; have z2 := blk_at Z2.out (j := 2) rfl; have zf := blk_free Z2.out
            go_wp2_with fail
            rw [R.out]
            refine bodyPost_ret (v := .tuple #[.agg #[.slice (some ⟨g, 0, none⟩) sn sc, .int .i64 k, .slice dA dn dc], .int .i64 2]) (by simp [results, Try.results57, go_sem, z0, z1, z2]) rfl ⟨(some ⟨g, 0, none⟩), sn, sc, k, dA, dn, dc, rfl, (fun h => by first | (exact absurd h (by decide)) | (cases h) | (exact absurd h ‹_›)), below_out3 B2.out (by omega) _ _ _, Keeps.into K2.out (below_out3 (Below.refl _ _) (by omega) _ _ _)⟩
          · have RK0 := Lib.hid (show lateCode ss item er ea = 0 by simpa using RK.out)
            have hcs2 := Lib.hid (blk_keep b2.out (blk_keep hb hcs))
            have bb := Lib.hid (hb.trans (b2.out.mono zr))
            obtain ⟨ln, hln⟩ : ∃ ln, ln = (lateOut x.lays ix ea).length := ⟨_, rfl⟩
            rw [← hln] at o2 ⊢
            have SO2 := Lib.hid (RL.out w2 A2 ln c2' (lateOut x.lays ix ea) bb.out (own_base o2 zr)).top
            have C2 := cell_keep hb2 c2; have f2 := blk_free hcs2.out; have q02 := cell_keep hb2 q0
            obtain ⟨y, hy⟩ : ∃ y, y = lateGone x.lays ix ea := ⟨_, rfl⟩
            have yb1 : -24000000000 ≤ y := by rw [hy]; exact (lateGone_bd _ _ _).1
            have yb2 : y ≤ 24000000000 := by rw [hy]; exact (lateGone_bd _ _ _).2
            rw [← hy] at RC ⊢
            clear c0 c1 c2 e5 q0 o2 hb2 oi rl hln hy
            have KS := Lib.hid (Keeps.set (q := none) (u := .slice A2 ln c2') (p := ⟨g, p * 3 + 2, none⟩) hcs2.out (by decide) (by decide))
            go_upto_region 17 with fail
            obtain ⟨V1, hV⟩ : ∃ V1, V1 = w2.setCell ⟨g, p * 3 + 2, none⟩ (.slice A2 ln c2') := ⟨_, rfl⟩
            rw [← hV] at KS SO2 ⊢
            have QV1 := Lib.hid (KS.out _ _ _ (.inr ⟨rfl, by simp⟩) Q2.out); have EV1 := Lib.hid (KS.out _ _ _ (.inl rfl) E2.out); have ZV1 := Lib.hid (KS.out _ _ _ (.inr ⟨rfl, by simp⟩) Z2.out); have KV1 := Lib.hid (K2.out.trans KS.out)
            have BV1 := Lib.hid (show Below lo w V1 by rw [hV]; exact B2.out.setCell (p := ⟨g, p * 3 + 2, none⟩) hg1 (.slice A2 ln c2'))
            have HV1 := Lib.hid (show BooksO V1 lo V1.heap.size _ _ _ _ _ _ from ⟨us, US.out, SO2.out⟩)
            rw [← RSS.out] at HV1
            clear hV C2 f2 q02 K2 KS
            have wk : IntKind.i64.wrap (ea - y) = ea - y := IntWalk.i64_in _ (by omega)
            cases hp : bkPostOk ds day (lateE ⟨id, day, 5, item, eq, ea, er⟩ y)
            · have HP := Lib.hid hp; clear hp
              have R := Lib.hid (show (bookLate ⟨ss, k, ds⟩ ⟨id, day, 5, item, eq, ea, er⟩).1 = 3 by simp [bookLate, RK0.out, RC.out, postB, HP.out])
              have ec := evCells (e := ⟨id, day, 5, item, eq, ea, er⟩) EV1.out; obtain ⟨y0, y1, y2, y3, y4, y5, y6⟩ := ec; simp only at y0 y1 y2 y3 y4 y5 y6; have y5a := cell_alloc y5
              have x0 := blk_at QV1.out (j := 0) rfl; have x1 := blk_at QV1.out (j := 1) rfl; have x2 := blk_at QV1.out (j := 2) rfl; have xf := blk_free QV1.out
              go_wp2_with fail
              clear x0 x1 x2 xf
              refine (specPostBk lo _ (some ⟨g, 0, none⟩) sn sc (k) dA dn dc (lateSs ss item er ea) ds day _ 3 3 _ 3 (lateE ⟨id, day, 5, item, eq, ea, er⟩ y) _ (HV1.out.below (below_then (below_box _ _) (below_box _ _))) (Nat.le_trans (Nat.le_trans hlo BV1.out.size) (below_then (below_box _ _) (below_box _ _)).size) OK.out hdn ((RS_new (by rfl)).alloc _) (RS_new2 (by rfl)) (by omega) (lateE_small _ _)).mono ?_; rw [HP.out, show okCode false = 3 from rfl]; rintro r w5 ⟨D5, m5, d5, rfl, h5, hb5⟩
              have b5 := Lib.hid (show Below V1.heap.size V1 w5 from below_then (below_then (below_box _ _) (below_box _ _)) hb5)
              have Q5 := Lib.hid (blk_keep b5.out QV1.out); have E5 := Lib.hid (blk_keep b5.out EV1.out); have Z5 := Lib.hid (blk_keep b5.out ZV1.out)
              have B5 := Lib.hid (BV1.out.trans (b5.out.mono (Nat.le_trans hlo BV1.out.size)))
              have K5 := Lib.hid (KV1.out.trans (Keeps.below b5.out))
              clear h5 hb5 b5 y0 y1 y2 y3 y4 y5 y5a y6
              have x0 := blk_at Q5.out (j := 0) rfl; have x1 := blk_at Q5.out (j := 1) rfl; have x2 := blk_at Q5.out (j := 2) rfl; have xf := blk_free Q5.out
              go_upto_region 40 with fail
              obtain ⟨VE, hV⟩ : ∃ VE, VE = (((w5.setCell ⟨w.heap.size, 0, none⟩ (.slice (some ⟨g, 0, none⟩) sn sc)).setCell ⟨w.heap.size, 1, none⟩ (.int .i64 k)).setCell ⟨w.heap.size, 2, none⟩ (.slice D5 m5 d5)) := ⟨_, rfl⟩
              have QVE := Lib.hid (show VE.heap[w.heap.size]? = _ from hV ▸ blk_set3 Q5.out (.slice (some ⟨g, 0, none⟩) sn sc) (.int .i64 k) (.slice D5 m5 d5))
              have EVE := Lib.hid ((show VE.heap[w.heap.size + 1]? = _ from hV ▸ blk_set3_ne (by omega) (.slice (some ⟨g, 0, none⟩) sn sc) (.int .i64 k) (.slice D5 m5 d5)).trans E5.out)
              have ZVE := Lib.hid ((show VE.heap[w.heap.size + 1 + 1]? = _ from hV ▸ blk_set3_ne (by omega) (.slice (some ⟨g, 0, none⟩) sn sc) (.int .i64 k) (.slice D5 m5 d5)).trans Z5.out)
              have BVE := Lib.hid (show Below lo w VE from hV ▸ below_out3 B5.out hlo (.slice (some ⟨g, 0, none⟩) sn sc) (.int .i64 k) (.slice D5 m5 d5))
              have KVE := Lib.hid (show Keeps none w VE from hV ▸ Keeps.into K5.out (below_out3 (Below.refl _ _) (Nat.le_refl _) (.slice (some ⟨g, 0, none⟩) sn sc) (.int .i64 k) (.slice D5 m5 d5)))
              rw [← hV]
              clear hV x0 x1 x2 xf
              have x0 := blk_at QVE.out (j := 0) rfl; have x1 := blk_at QVE.out (j := 1) rfl; have x2 := blk_at QVE.out (j := 2) rfl; have xf := blk_free QVE.out
              have z0 := blk_at ZVE.out (j := 0) rfl; have z1 := blk_at ZVE.out (j := 1) rfl; have z2 := blk_at ZVE.out (j := 2) rfl; have zf := blk_free ZVE.out
              go_wp2_with fail
              rw [R.out]
              refine bodyPost_ret (v := .tuple #[.agg #[.slice (some ⟨g, 0, none⟩) sn sc, .int .i64 k, .slice D5 m5 d5], .int .i64 3]) (by simp [results, Try.results57, go_sem, z0, z1, z2]) rfl ⟨(some ⟨g, 0, none⟩), sn, sc, k, D5, m5, d5, rfl, (fun h => by first | (exact absurd h (by decide)) | (cases h) | (exact absurd h ‹_›)), below_out3 BVE.out (by omega) _ _ _, Keeps.into KVE.out (below_out3 (Below.refl _ _) (by omega) _ _ _)⟩
            · have HP := Lib.hid hp; clear hp
              have R := Lib.hid (show bookLate ⟨ss, k, ds⟩ ⟨id, day, 5, item, eq, ea, er⟩ = (0, ⟨lateSs ss item er ea, k, bkPostDs ds day (lateE ⟨id, day, 5, item, eq, ea, er⟩ y)⟩) by simp [bookLate, RK0.out, RC.out, postB, HP.out])
              have ec := evCells (e := ⟨id, day, 5, item, eq, ea, er⟩) EV1.out; obtain ⟨y0, y1, y2, y3, y4, y5, y6⟩ := ec; simp only at y0 y1 y2 y3 y4 y5 y6; have y5a := cell_alloc y5
              have x0 := blk_at QV1.out (j := 0) rfl; have x1 := blk_at QV1.out (j := 1) rfl; have x2 := blk_at QV1.out (j := 2) rfl; have xf := blk_free QV1.out
              go_wp2_with fail
              clear x0 x1 x2 xf
              refine (specPostBk lo _ (some ⟨g, 0, none⟩) sn sc (k) dA dn dc (lateSs ss item er ea) ds day _ 3 3 _ 3 (lateE ⟨id, day, 5, item, eq, ea, er⟩ y) _ (HV1.out.below (below_then (below_box _ _) (below_box _ _))) (Nat.le_trans (Nat.le_trans hlo BV1.out.size) (below_then (below_box _ _) (below_box _ _)).size) OK.out hdn ((RS_new (by rfl)).alloc _) (RS_new2 (by rfl)) (by omega) (lateE_small _ _)).mono ?_; rw [HP.out, show okCode true = 0 from rfl]; rintro r w5 ⟨D5, m5, d5, rfl, h5, hb5⟩
              have b5 := Lib.hid (show Below V1.heap.size V1 w5 from below_then (below_then (below_box _ _) (below_box _ _)) hb5)
              have Q5 := Lib.hid (blk_keep b5.out QV1.out); have E5 := Lib.hid (blk_keep b5.out EV1.out); have Z5 := Lib.hid (blk_keep b5.out ZV1.out)
              have B5 := Lib.hid (BV1.out.trans (b5.out.mono (Nat.le_trans hlo BV1.out.size)))
              have K5 := Lib.hid (KV1.out.trans (Keeps.below b5.out))
              have H5 := Lib.hid (h5 rfl)
              clear h5 hb5 b5 y0 y1 y2 y3 y4 y5 y5a y6
              have x0 := blk_at Q5.out (j := 0) rfl; have x1 := blk_at Q5.out (j := 1) rfl; have x2 := blk_at Q5.out (j := 2) rfl; have xf := blk_free Q5.out
              go_upto_region 40 with fail
              obtain ⟨VE, hV⟩ : ∃ VE, VE = (((w5.setCell ⟨w.heap.size, 0, none⟩ (.slice (some ⟨g, 0, none⟩) sn sc)).setCell ⟨w.heap.size, 1, none⟩ (.int .i64 k)).setCell ⟨w.heap.size, 2, none⟩ (.slice D5 m5 d5)) := ⟨_, rfl⟩
              have QVE := Lib.hid (show VE.heap[w.heap.size]? = _ from hV ▸ blk_set3 Q5.out (.slice (some ⟨g, 0, none⟩) sn sc) (.int .i64 k) (.slice D5 m5 d5))
              have EVE := Lib.hid ((show VE.heap[w.heap.size + 1]? = _ from hV ▸ blk_set3_ne (by omega) (.slice (some ⟨g, 0, none⟩) sn sc) (.int .i64 k) (.slice D5 m5 d5)).trans E5.out)
              have ZVE := Lib.hid ((show VE.heap[w.heap.size + 1 + 1]? = _ from hV ▸ blk_set3_ne (by omega) (.slice (some ⟨g, 0, none⟩) sn sc) (.int .i64 k) (.slice D5 m5 d5)).trans Z5.out)
              have BVE := Lib.hid (show Below lo w VE from hV ▸ below_out3 B5.out hlo (.slice (some ⟨g, 0, none⟩) sn sc) (.int .i64 k) (.slice D5 m5 d5))
              have KVE := Lib.hid (show Keeps none w VE from hV ▸ Keeps.into K5.out (below_out3 (Below.refl _ _) (Nat.le_refl _) (.slice (some ⟨g, 0, none⟩) sn sc) (.int .i64 k) (.slice D5 m5 d5)))
              have HVE := Lib.hid (show BooksO VE lo VE.heap.size _ _ _ _ _ _ from hV ▸ (BooksO.out3 H5.out Q5.out (.slice (some ⟨g, 0, none⟩) sn sc) (.int .i64 k) (.slice D5 m5 d5)).top)
              rw [← hV]
              clear hV x0 x1 x2 xf
              have x0 := blk_at QVE.out (j := 0) rfl; have x1 := blk_at QVE.out (j := 1) rfl; have x2 := blk_at QVE.out (j := 2) rfl; have xf := blk_free QVE.out
              have z0 := blk_at ZVE.out (j := 0) rfl; have z1 := blk_at ZVE.out (j := 1) rfl; have z2 := blk_at ZVE.out (j := 2) rfl; have zf := blk_free ZVE.out
              go_wp2_with fail
              rw [R.out]
              refine bodyPost_ret (v := .tuple #[.agg #[.slice (some ⟨g, 0, none⟩) sn sc, .int .i64 k, .slice D5 m5 d5], .int .i64 0]) (by simp [results, Try.results57, go_sem, z0, z1, z2]) rfl ⟨(some ⟨g, 0, none⟩), sn, sc, k, D5, m5, d5, rfl, fun _ => ⟨rfl, (BooksO.out3 HVE.out ZVE.out _ _ _).top⟩, below_out3 BVE.out (by omega) _ _ _, Keeps.into KVE.out (below_out3 (Below.refl _ _) (by omega) _ _ _)⟩
theorem specBookBk (lo hi2 : Nat) (sA : Option Addr) (sn sc : Nat) (dA : Option Addr) (dn dc : Nat) (b : Bk) (e : Ev) (w : World) (hbk : BooksO w lo hi2 (.slice sA sn sc) sn b.ss (.slice dA dn dc) dn b.ds) (hlo : lo ≤ w.heap.size) (ha : areBk b.ss b.k b.ds = true) (he : isEvent e = true) (hok : docsSmall b.ds) :
    Calls Try.prog 57 #[.agg #[.slice sA sn sc, .int .i64 b.k, .slice dA dn dc], evAgg e] w fun r w' => ∃ A n c kk D m d, r = .returned (.tuple #[.agg #[.slice A n c, .int .i64 kk, .slice D m d], .int .i64 (bookB b e).1]) ∧
      ((bookB b e).1 = 0 → kk = (bookB b e).2.k ∧ BooksO w' lo w'.heap.size (.slice A n c) n (bookB b e).2.ss (.slice D m d) m (bookB b e).2.ds) ∧ Below lo w w' ∧ Keeps none w w' := by
  have hss := areBk_shs ha
  have hwk : 0 ≤ b.k ∧ b.k ≤ 1000000000 := by simp only [areBk, Bool.and_eq_true] at ha; exact inB_true.1 ha.2.2.1
  have hdn : b.ds.length ≤ 1048576 := by simp only [areBk, Bool.and_eq_true] at ha; have := (areDocs_true ha.2.2.2).1; omega
  rcases isEvent_ways he with ⟨hk, h1, h2⟩ | ⟨hk, h1, h2⟩ | ⟨hk, h1⟩ | ⟨hk, h1, h2⟩ | ⟨hk, h1, h2⟩
  · rw [show bookB b e = bookBuy b e by simp [bookB, hk]]; exact specBookBuy lo hi2 sA sn sc dA dn dc b e w hbk hlo hss hok hdn hwk hk h1 h2
  · rw [show bookB b e = bookMake b e by simp [bookB, hk]]; exact specBookMake lo hi2 sA sn sc dA dn dc b e w hbk hlo hss hok hdn hwk hk h1 h2
  · rw [show bookB b e = bookIss b e by simp [bookB, hk]]; exact specBookIss lo hi2 sA sn sc dA dn dc b e w hbk hlo hss hok hdn hwk hk h1
  · rw [show bookB b e = bookSell b e by simp [bookB, hk]]; exact specBookSell lo hi2 sA sn sc dA dn dc b e w hbk hlo hss hok hdn hwk hk h1 h2
  · rw [show bookB b e = bookLate b e by simp [bookB, hk]]; exact specBookLate lo hi2 sA sn sc dA dn dc b e w hbk hlo hss hok hdn hwk hk h1 h2
end Go.Proofs.Ytlgodbjbllpipaa
namespace Go.Proofs.Ytlgodbjbllpipaa
open Go.ChangeShapes Go.WideShapes Go.ChangeAt Go.RowKit

set_option maxRecDepth 100000 in
set_option maxHeartbeats 4000000 in
theorem specCopyBk (sA : Option Addr) (sn sc : Nat) (k : Int) (dA : Option Addr) (dn dc : Nat) (ss : List Shf) (ds : List Doc) (w : World) (hr : ShelvesR w sA sn ss) (hd : DocsR w dA dn ds) (hn : sn ≤ 1048600) (hm : dn ≤ 1048600)
    (hss : ∀ s ∈ ss, s.ids.length ≤ 1048600 ∧ s.lays.length ≤ 1048600) (hds : ∀ d ∈ ds, d.ents.length ≤ 1048600) :
    Calls Try.prog 56 #[.agg #[.slice sA sn sc, .int .i64 k, .slice dA dn dc]] w fun e w' => ∃ A c B d, e = .returned (.agg #[.slice A sn c, .int .i64 k, .slice B dn d]) ∧
      BooksO w' w.heap.size w'.heap.size (.slice A sn c) sn ss (.slice B dn d) dn ds ∧ Below w.heap.size w w' := by
  have hl := Lib.hid hr.len
  have SS := Lib.hid hss; have DS := Lib.hid hds
  clear hss hds
  obtain ⟨i0, hi, hz0, hz1, hz2⟩ := info_parts shfInfo
  obtain ⟨j0, hi', hz0', hz1', hz2'⟩ := info_parts intInfo
  obtain ⟨k0, hi3, hz03, hz13, hz23⟩ := info_parts layInfo
  have b0 := Lib.hid (below_then (below_box w (Obj.cells #[.slice sA sn sc, .int .i64 k, .slice dA dn dc] 31)) (below_box _ (Obj.cells #[.slice none 0 0, .int .i64 0, .slice none 0 0] 31)))
  have X := Lib.hid (blk_alloc (blk_new1 w (Obj.cells #[.slice sA sn sc, .int .i64 k, .slice dA dn dc] 31)) (Obj.cells #[.slice none 0 0, .int .i64 0, .slice none 0 0] 31))
  have Z := Lib.hid (blk_new2 w (Obj.cells #[.slice sA sn sc, .int .i64 k, .slice dA dn dc] 31) (Obj.cells #[.slice none 0 0, .int .i64 0, .slice none 0 0] 31))
  have hr := hr.below b0.out; have hd := hd.below b0.out
  go_enter Try.func56, Try.ntmps56
  go_wp2_with fail
  have WS : ((w.alloc (Obj.cells #[.slice sA sn sc, .int .i64 k, .slice dA dn dc] 31)).alloc (Obj.cells #[.slice none 0 0, .int .i64 0, .slice none 0 0] 31)).heap.size = w.heap.size + 1 + 1 := by simp
  generalize (w.alloc (Obj.cells #[.slice sA sn sc, .int .i64 k, .slice dA dn dc] 31)).alloc (Obj.cells #[.slice none 0 0, .int .i64 0, .slice none 0 0] 31) = W at *
  have n1 : ¬ w.heap.size = W.heap.size := by omega
  have n2 : ¬ W.heap.size = w.heap.size := by omega
  replace WS := Lib.hid WS
  have x0 := blk_at X.out (j := 0) rfl; have x1 := blk_at X.out (j := 1) rfl; have x2 := blk_at X.out (j := 2) rfl
  go_region_held3 (fun w' => w'.cell? ⟨w.heap.size, 1, none⟩ = some (.int .i64 k) ∧ w'.cell? ⟨w.heap.size, 2, none⟩ = some (.slice dA dn dc))
    (first
      | go_keep
      | (go_split_ands; exact ⟨cell_keep h1 ‹_›, cell_keep h1 ‹_›⟩)
      | (go_split_ands; exact ⟨cell_alloc y1 _, cell_alloc y2 _⟩))
    (first
      | (go_at_call 78; refine (specCopyDocs _ _ _ ds (W.alloc (Obj.cells #[.slice none 0 0, .int .i64 0, .slice none 0 0] 31)).drew (hd.below ((below_box W _).drew)) hm DS.out).mono ?_; rintro e v1 ⟨A1, c1, rfl, O1, h1⟩; have Q := blk_keep h1 (show (W.alloc (Obj.cells #[.slice none 0 0, .int .i64 0, .slice none 0 0] 31)).drew.heap[W.heap.size]? = some (Obj.cells #[.slice none 0 0, .int .i64 0, .slice none 0 0] 31 (0, 0)) from blk_new1 W _); have q0 := blk_at Q (j := 0) rfl; have q1 := blk_at Q (j := 1) rfl; have q2 := blk_at Q (j := 2) rfl; have qf := blk_free Q; have y1 := cell_keep h1 (show (W.alloc (Obj.cells #[.slice none 0 0, .int .i64 0, .slice none 0 0] 31)).drew.cell? ⟨w.heap.size, 1, none⟩ = some (.int .i64 k) from cell_alloc x1 _); have y2 := cell_keep h1 (show (W.alloc (Obj.cells #[.slice none 0 0, .int .i64 0, .slice none 0 0] 31)).drew.cell? ⟨w.heap.size, 2, none⟩ = some (.slice dA dn dc) from cell_alloc x2 _))
      | (go_at_call 78; refine (specCopyDocs _ _ _ ds W.drew (hd.below ((Below.refl _ _).drew)) hm DS.out).mono ?_; rintro e v1 ⟨A1, c1, rfl, O1, h1⟩; have y1 := cell_keep h1 (show W.drew.cell? ⟨w.heap.size, 1, none⟩ = some (.int .i64 k) from x1); have y2 := cell_keep h1 (show W.drew.cell? ⟨w.heap.size, 2, none⟩ = some (.slice dA dn dc) from x2)))
  focus
    have Vq := blk_new1 v1 (Obj.cells #[.slice none 0 0, .int .i64 k, .slice A1 dn c1] 31)
    have OD := O1.below (below_box v1 (Obj.cells #[.slice none 0 0, .int .i64 k, .slice A1 dn c1] 31))
    have BV := ((Below.refl W.heap.size W).drew.trans h1).alloc (Nat.le_trans h1.size (Nat.le_refl _)) (Obj.cells #[.slice none 0 0, .int .i64 k, .slice A1 dn c1] 31)
    obtain ⟨lo, hlo⟩ : ∃ q, q = W.drew.heap.size := ⟨_, rfl⟩
    obtain ⟨hi2, hhi⟩ : ∃ q, q = v1.heap.size := ⟨_, rfl⟩
    obtain ⟨q, hq⟩ : ∃ q, q = v1.heap.size := ⟨_, rfl⟩
    have F1 : W.heap.size ≤ lo := by rw [hlo]; exact Nat.le_refl _
    have F2 : q < lo ∨ hi2 ≤ q := .inr (by omega)
    have F3 : W.heap.size ≤ q := by rw [hq]; exact h1.size
    have F4 : hi2 ≤ (v1.alloc (Obj.cells #[.slice none 0 0, .int .i64 k, .slice A1 dn c1] 31)).heap.size := by rw [hhi]; simp
    have F5 : lo ≤ (v1.alloc (Obj.cells #[.slice none 0 0, .int .i64 k, .slice A1 dn c1] 31)).heap.size := by rw [hlo]; refine Nat.le_trans (show W.heap.size ≤ v1.heap.size from h1.size) (by simp)
    rw [← hlo, ← hhi] at OD
    rw [← hq] at Vq
    rw [← hq]
    clear hq hlo hhi
    obtain ⟨V, hV⟩ : ∃ V, V = v1.alloc (Obj.cells #[.slice none 0 0, .int .i64 k, .slice A1 dn c1] 31) := ⟨_, rfl⟩
    rw [← hV] at OD BV Vq F4 F5
    rw [← hV]
    clear hV h1 O1 y1 y2 x0 x1 x2
  rotate_left
  focus
    have Vq : (((v1.setCell ⟨W.heap.size, 0, none⟩ (.slice none 0 0)).setCell ⟨W.heap.size, 1, none⟩ (.int .i64 k)).setCell ⟨W.heap.size, 2, none⟩ (.slice A1 dn c1)).heap[W.heap.size]? = some (Obj.cells #[.slice none 0 0, .int .i64 k, .slice A1 dn c1] 31 (0, 0)) := heap_setCell_same _ W.heap.size 2 _ _ (.slice A1 dn c1) (heap_setCell_same _ W.heap.size 1 _ _ (.int .i64 k) (heap_setCell_same v1 W.heap.size 0 _ _ (.slice none 0 0) Q))
    have sz : (W.alloc (Obj.cells #[.slice none 0 0, .int .i64 0, .slice none 0 0] 31)).drew.heap.size = W.heap.size + 1 := by show (W.alloc _).heap.size = _; simp
    have h1' : Below W.heap.size W v1 := ((below_box W _).drew).trans (h1.mono (by rw [sz]; omega))
    have OD := ((((show DocsO v1 _ _ _ _ _ _ from O1).within (Within.of_grown (grown_set v1 ⟨W.heap.size, 0, none⟩ (.slice none 0 0)) (lo := W.heap.size) (hi := W.heap.size + 1) (fun j hj => by injection hj with hj; simp only at hj; omega)) (.inr (by rw [sz]; exact Nat.le_refl _))).within (Within.of_grown (grown_set _ ⟨W.heap.size, 1, none⟩ (.int .i64 k)) (lo := W.heap.size) (hi := W.heap.size + 1) (fun j hj => by injection hj with hj; simp only at hj; omega)) (.inr (by rw [sz]; exact Nat.le_refl _))).within (Within.of_grown (grown_set _ ⟨W.heap.size, 2, none⟩ (.slice A1 dn c1)) (lo := W.heap.size) (hi := W.heap.size + 1) (fun j hj => by injection hj with hj; simp only at hj; omega)) (.inr (by rw [sz]; exact Nat.le_refl _)))
    have BV := ((h1'.setCell (p := ⟨W.heap.size, 0, none⟩) (Nat.le_refl _) (.slice none 0 0)).setCell (p := ⟨W.heap.size, 1, none⟩) (Nat.le_refl _) (.int .i64 k)).setCell (p := ⟨W.heap.size, 2, none⟩) (Nat.le_refl _) (.slice A1 dn c1)
    obtain ⟨lo, hlo⟩ : ∃ q, q = (W.alloc (Obj.cells #[.slice none 0 0, .int .i64 0, .slice none 0 0] 31)).drew.heap.size := ⟨_, rfl⟩
    obtain ⟨hi2, hhi⟩ : ∃ q, q = v1.heap.size := ⟨_, rfl⟩
    obtain ⟨q, hq⟩ : ∃ q, q = W.heap.size := ⟨_, rfl⟩
    have F1 : W.heap.size ≤ lo := by rw [hlo, sz]; omega
    have F2 : q < lo ∨ hi2 ≤ q := .inl (by rw [hlo, sz, hq]; omega)
    have F3 : W.heap.size ≤ q := by rw [hq]; exact Nat.le_refl _
    have F4 : hi2 ≤ (((v1.setCell ⟨W.heap.size, 0, none⟩ (.slice none 0 0)).setCell ⟨W.heap.size, 1, none⟩ (.int .i64 k)).setCell ⟨W.heap.size, 2, none⟩ (.slice A1 dn c1)).heap.size := by rw [hhi]; simp [World.setCell]
    have F5 : lo ≤ (((v1.setCell ⟨W.heap.size, 0, none⟩ (.slice none 0 0)).setCell ⟨W.heap.size, 1, none⟩ (.int .i64 k)).setCell ⟨W.heap.size, 2, none⟩ (.slice A1 dn c1)).heap.size := by rw [hlo]; refine Nat.le_trans (show _ ≤ v1.heap.size from h1.size) (by simp [World.setCell])
    rw [← hlo, ← hhi] at OD
    obtain ⟨V, hV⟩ : ∃ V, V = ((v1.setCell ⟨W.heap.size, 0, none⟩ (.slice none 0 0)).setCell ⟨W.heap.size, 1, none⟩ (.int .i64 k)).setCell ⟨W.heap.size, 2, none⟩ (.slice A1 dn c1) := ⟨_, rfl⟩
    rw [← hV] at OD BV Vq F4 F5
    rw [← hV]
    rw [← hq] at Vq
    rw [← hq]
    clear hV hq hlo hhi h1 h1' O1 y1 y2 x0 x1 x2 Q q0 q1 q2 qf sz
  rotate_left
  all_goals
    have XV := Lib.hid ((BV.block w.heap.size (by rw [WS.out]; omega)).trans X.out)
    have qV : q < V.heap.size := (Array.getElem?_eq_some_iff.1 Vq).1
    have SE := ShelvesO.empty (own_none V V.heap.size 59 3)
    go_wp2_with fail
    go_loopw [4] (fun i wr => ∃ (j : Nat) (A' : Option Addr) (c' : Nat), j ≤ sn ∧ i = .int .i64 j ∧ wr.heap[q]? = some (Obj.cells #[.slice A' j c', .int .i64 k, .slice A1 dn c1] 31 (0, 0)) ∧ ShelvesO wr V.heap.size wr.heap.size (.slice A' j c') j (ss.take j) [] ∧ DocsO wr lo hi2 (.slice A1 dn c1) dn ds [] ∧ Below W.heap.size W wr ∧ V.heap.size ≤ wr.heap.size) (fun i _ => sn - (intOf i).toNat)
    case atStart => exact ⟨0, none, 0, Nat.zero_le _, rfl, Vq, SE, OD, BV, Nat.le_refl _⟩
    case round =>
      obtain ⟨j, A2, c2, hj, rfl, Q, SO, OD2, hb, hz⟩ := hrel
      clear SE OD Vq BV XV
      have XR := Lib.hid ((hb.block w.heap.size (by rw [WS.out]; omega)).trans X.out)
      have x0 := blk_at XR.out (j := 0) rfl
      have QH := Lib.hid Q; clear Q
      by_cases hlt : j < sn
      · obtain ⟨g, off, rfl, ⟨item, ids, lays⟩, iA, iN, iC, lA, lN, lC, hx, c0, c1', c2', hi0, hlr⟩ := (hr.below hb).shAt hlt
        obtain ⟨s1, s2⟩ := SS.out _ (List.mem_of_getElem? hx)
        have TS := Lib.hid (take_snoc hx)
        simp only at c0 c1' c2' hi0 hlr s1 s2
        have si := hi0.ints; have sl := hlr.lay
        have in1 : iN ≤ 1048600 := by omega
        have ln1 : lN ≤ 1048600 := by omega
        clear hx s1 s2 si sl
        obtain ⟨xs, o0, T⟩ := SO.outer hz
        have TT := Lib.hid T; clear T
        obtain ⟨U, hU⟩ : ∃ U, U = wr.alloc (Obj.cells #[.string item, .slice iA iN iC, .slice lA lN lC] 59) := ⟨_, rfl⟩
        have US : Hid (U.heap.size = wr.heap.size + 1) := by rw [hU]; show (wr.alloc _).heap.size = _; simp
        have BU := Lib.hid (show Below wr.heap.size wr U by rw [hU]; exact below_box wr _)
        have XU := Lib.hid (show U.heap[wr.heap.size]? = some (Obj.cells #[.string item, .slice iA iN iC, .slice lA lN lC] 59 (0, 0)) by rw [hU]; exact blk_new1 wr _)
        have s0 := blk_at XU.out (j := 0) rfl; have s1 := blk_at XU.out (j := 1) rfl; have s2 := blk_at XU.out (j := 2) rfl
        have QU := Lib.hid (blk_keep BU.out QH.out)
        have q0 := blk_at QU.out (j := 0) rfl
        have i1 : (0 : Int) ≤ j := by omega
        have i2 : (j : Int) < sn := by omega
        have hiU := hi0.below BU.out; have hlU := hlr.below BU.out
        have oU := own_below o0 BU.out
        have ag : (Value.slice A2 j c2).ownBlock ≠ some wr.heap.size := fun he => by have := (o0.lt _ he).2; omega
        have aq : (Value.slice A2 j c2).ownBlock ≠ some q := fun he => by have := (o0.lt _ he).1; omega
        have E0 := own_empty U U.heap.size 3 1 (Nat.le_refl _)
        go_wp2_with fail
        rw [← hU]
        clear hU
        have qA := cell_alloc q0
        have q0d : U.drew.cell? ⟨q, 0, none⟩ = some (.slice A2 j c2) := q0
        have qAd := cell_alloc q0d
        have E0' : (U.drew.alloc (Obj.cells #[] 3)).ownsRow U.heap.size 3 1 (.slice (some ⟨U.heap.size, 0, none⟩) 0 0) 0 [] := own_empty U.drew U.heap.size 3 1 (Nat.le_refl _)
        have L0' : (U.drew.alloc (Obj.cells #[] 61)).ownsRow U.heap.size 61 3 (.slice (some ⟨U.heap.size, 0, none⟩) 0 0) 0 [] := own_empty U.drew U.heap.size 61 3 (Nat.le_refl _)
        have nw1 : ¬ wr.heap.size = q := by omega
        have nw2 : ¬ q = wr.heap.size := by omega
        refine wp_region_cut (S := (fun w' => w'.cell? ⟨wr.heap.size, 0, none⟩ = some (.string item) ∧ w'.cell? ⟨wr.heap.size, 1, none⟩ = some (.slice iA iN iC) ∧ w'.cell? ⟨wr.heap.size, 2, none⟩ = some (.slice lA lN lC) ∧ w'.cell? ⟨q, 0, none⟩ = some (.slice A2 j c2))) 16 (by kernel_rfl) (by kernel_rfl) (by simp only [List.pop_toArray, List.dropLast_cons_cons, List.dropLast_singleton]; rfl) ⟨s0, s1, s2, q0⟩ (fun hHeld => ?_)
        refine wpAnyH_take (i := 0) (oi := ?_) (v := ?_) (by simp only [List.getElem?_toArray, List.getElem?_cons_zero]; rfl) (by kernel_rfl) (by kernel_rfl) (by kernel_rfl) ?_ (Or.inl ⟨by rfl, ?_⟩) hHeld ?_
        rotate_left 1
        focus exact CutPost.panic fun _ _ _ h => h
        focus (intro w hSw; (try dsimp only at hSw); go_simp; try with_reducible rfl)
        (try simp only [Act.put, List.setIfInBounds_toArray, List.set_cons_zero, List.set_cons_succ])
        refine wpAnyH_take (i := 1) (oi := ?_) (v := ?_) (by simp only [List.getElem?_toArray, List.getElem?_cons_succ, List.getElem?_cons_zero]; rfl) (by kernel_rfl) (by kernel_rfl) (by kernel_rfl) ?_ (Or.inl ⟨by rfl, ?_⟩) hHeld ?_
        rotate_left 1
        focus exact CutPost.panic fun _ _ _ h => h
        focus (intro w hSw; (try dsimp only at hSw); go_simp; try with_reducible rfl)
        (try simp only [Act.put, List.setIfInBounds_toArray, List.set_cons_zero, List.set_cons_succ])
        refine wpAnyH_take (i := 2) (oi := ?_) (v := ?_) (by simp only [List.getElem?_toArray, List.getElem?_cons_succ, List.getElem?_cons_zero]; rfl) (by kernel_rfl) (by kernel_rfl) (by kernel_rfl) ?_ (Or.inl ⟨by rfl, ?_⟩) hHeld ?_
        rotate_left 1
        focus exact CutPost.panic fun _ _ _ h => h
        focus (intro w hSw; (try dsimp only at hSw); go_simp; try with_reducible rfl)
        (try simp only [Act.put, List.setIfInBounds_toArray, List.set_cons_zero, List.set_cons_succ])
        refine wpAnyH_take (i := 3) (oi := ?_) (v := ?_) (by simp only [List.getElem?_toArray, List.getElem?_cons_succ, List.getElem?_cons_zero]; rfl) (by kernel_rfl) (by kernel_rfl) (by kernel_rfl) ?_ (Or.inl ⟨by rfl, ?_⟩) hHeld ?_
        rotate_left 1
        focus exact CutPost.panic fun _ _ _ h => h
        focus (intro w hSw; (try dsimp only at hSw); go_simp; try with_reducible rfl)
        (try simp only [Act.put, List.setIfInBounds_toArray, List.set_cons_zero, List.set_cons_succ])
        refine wpAnyH_take (i := 5) (oi := ?_) (v := ?_) (by simp only [List.getElem?_toArray, List.getElem?_cons_succ, List.getElem?_cons_zero]; rfl) (by kernel_rfl) (by kernel_rfl) (by kernel_rfl) ?_ (Or.inl ⟨by rfl, ?_⟩) hHeld ?_
        rotate_left 1
        focus exact CutPost.panic fun _ _ _ h => h
        focus (intro w hSw; (try dsimp only at hSw); go_simp; try with_reducible rfl)
        (try simp only [Act.put, List.setIfInBounds_toArray, List.set_cons_zero, List.set_cons_succ])
        refine wpAnyH_take (i := 6) (oi := ?_) (v := ?_) (by simp only [List.getElem?_toArray, List.getElem?_cons_succ, List.getElem?_cons_zero]; rfl) (by kernel_rfl) (by kernel_rfl) (by kernel_rfl) ?_ (Or.inl ⟨by rfl, ?_⟩) hHeld ?_
        rotate_left 1
        focus exact CutPost.panic fun _ _ _ h => h
        focus (intro w hSw; (try dsimp only at hSw); go_simp; try with_reducible rfl)
        (try simp only [Act.put, List.setIfInBounds_toArray, List.set_cons_zero, List.set_cons_succ])
        refine wpAnyH_take (i := 9) (oi := ?_) (v := ?_) (by simp only [List.getElem?_toArray, List.getElem?_cons_succ, List.getElem?_cons_zero]; rfl) (by kernel_rfl) (by kernel_rfl) (by kernel_rfl) ?_ (Or.inl ⟨by rfl, ?_⟩) hHeld ?_
        rotate_left 1
        focus exact CutPost.panic fun _ _ _ h => h
        focus (intro w hSw; (try dsimp only at hSw); go_simp; try with_reducible rfl)
        (try simp only [Act.put, List.setIfInBounds_toArray, List.set_cons_zero, List.set_cons_succ])
        refine wpAnyH_take (i := 10) (oi := ?_) (v := ?_) (by simp only [List.getElem?_toArray, List.getElem?_cons_succ, List.getElem?_cons_zero]; rfl) (by kernel_rfl) (by kernel_rfl) (by kernel_rfl) ?_ (Or.inl ⟨by rfl, ?_⟩) hHeld ?_
        rotate_left 1
        focus exact CutPost.panic fun _ _ _ h => h
        focus (intro w hSw; (try dsimp only at hSw); go_simp; try with_reducible rfl)
        (try simp only [Act.put, List.setIfInBounds_toArray, List.set_cons_zero, List.set_cons_succ])
        refine wpAnyH_ready (rs := [4, 8]) (by kernel_rfl) (by simp) ?_
        refine AllReadyH.cons (o := ?_) (by simp only [List.getElem?_toArray, List.getElem?_cons_succ, List.getElem?_cons_zero]; rfl) (fun K hK => ?_) (AllReadyH.cons (o := ?_) (by simp only [List.getElem?_toArray, List.getElem?_cons_succ, List.getElem?_cons_zero]; rfl) (fun K hK => ?_) AllReadyH.nil)
        focus
          go_simp
          refine hK.out _ _ (⟨cell_alloc (show U.drew.cell? _ = _ from s0) _, cell_alloc (show U.drew.cell? _ = _ from s1) _, cell_alloc (show U.drew.cell? _ = _ from s2) _, qAd _⟩) (fun hHeld => ?_)
          clear hK K
          (try simp only [Act.put, List.setIfInBounds_toArray, List.set_cons_zero, List.set_cons_succ])
          refine wpAnyH_ready (rs := [7, 8]) (by kernel_rfl) (by simp) ?_
          refine AllReadyH.cons (o := ?_) (by simp only [List.getElem?_toArray, List.getElem?_cons_succ, List.getElem?_cons_zero]; rfl) (fun K hK => ?_) (AllReadyH.cons (o := ?_) (by simp only [List.getElem?_toArray, List.getElem?_cons_succ, List.getElem?_cons_zero]; rfl) (fun K hK => ?_) AllReadyH.nil)
          focus
            (refine step_app0 _ (by rfl) _ _ _ (by rfl) U.heap.size 3 j0 _ 1 8 Try.underlying56 hi' hz0' hz1' hz2' rfl (by omega) (.slice (some ⟨_, 0, none⟩) 0 0) (by rfl) E0' iA iN iC (intCells ids) (by rfl) ((hiU.drew.alloc _)) (intCells_one _) (by unfold maxLen; omega) (by omega) (by simp <;> omega) ?_; intro A6 c6 w6 o6 g6 at6 b6; have B6 : Hid (Below U.heap.size U w6) := (by refine Below.trans ?_ b6; go_grown <;> omega); have q6 := cell_keep B6.out q0)
            refine hK.out _ _ (⟨cell_keep B6.out s0, cell_keep B6.out s1, cell_keep B6.out s2, q6⟩) (fun hHeld => ?_)
            clear hK K
            (try simp only [Act.put, List.setIfInBounds_toArray, List.set_cons_zero, List.set_cons_succ])
            refine wpAnyH_ready (rs := [8]) (by kernel_rfl) (by simp) ?_
            refine AllReadyH.cons (o := ?_) (by simp only [List.getElem?_toArray, List.getElem?_cons_succ, List.getElem?_cons_zero]; rfl) (fun K hK => ?_) AllReadyH.nil
            go_simp
            refine hK.out _ _ (⟨cell_alloc (cell_keep B6.out s0) _, cell_alloc (cell_keep B6.out s1) _, cell_alloc (cell_keep B6.out s2) _, cell_alloc q6 _⟩) (fun hHeld => ?_)
            clear hK K
            (try simp only [Act.put, List.setIfInBounds_toArray, List.set_cons_zero, List.set_cons_succ])
            refine wpAnyH_ready (rs := [11]) (by kernel_rfl) (by simp) ?_
            refine AllReadyH.cons (o := ?_) (by simp only [List.getElem?_toArray, List.getElem?_cons_succ, List.getElem?_cons_zero]; rfl) (fun K hK => ?_) AllReadyH.nil
            (refine step_app0 _ (by rfl) _ _ _ (by rfl) w6.heap.size 61 k0 _ 3 24 Try.underlying57 hi3 hz03 hz13 hz23 rfl (by omega) (.slice (some ⟨_, 0, none⟩) 0 0) (by rfl) (own_empty w6 w6.heap.size 61 3 (Nat.le_refl _)) lA lN lC (layCells lays) (by rfl) ((hlU.below B6.out).alloc _) (layCells_one _) (by unfold maxLen; omega) (by omega) (by have := B6.out.size; simp <;> omega) ?_; intro A7 c7 w7 o7 g7 at7 b7; have B7 : Hid (Below U.heap.size U w7) := Lib.hid (B6.out.trans (((below_box w6 (Obj.cells #[] 61)).trans b7).mono B6.out.size)); have oo7 := own_below oU B7.out; have q7 := cell_keep B7.out q0; have q7A := cell_alloc q7; have Q7 := Lib.hid (blk_keep B7.out QU.out); have O7 : Owns w7 wr.heap.size w7.heap.size [⟨3, 1, .slice A6 iN c6, iN, intCells ids⟩, ⟨61, 3, .slice A7 lN c7, lN, layCells lays⟩] := (((Owns.one (own_base o6 (show wr.heap.size ≤ U.heap.size by rw [US.out]; omega))).cons ((below_box w6 (Obj.cells #[] 61)).trans b7) o7 (Nat.le_refl _) (by have := B6.out.size; have := US.out; omega)).perm (List.Perm.swap _ _ _)))
            refine hK.out _ _ (⟨cell_keep B7.out s0, cell_keep B7.out s1, cell_keep B7.out s2, q7⟩) (fun hHeld => ?_)
            clear hK K
            (try simp only [Act.put, List.setIfInBounds_toArray, List.set_cons_zero, List.set_cons_succ])
            clear o6 o7 g6 g7 at6 at7 b6 b7 B6 q6
          rotate_left 1
          focus
            go_simp
            refine hK.out _ _ (⟨cell_alloc (cell_alloc (show U.drew.cell? _ = _ from s0) _) _, cell_alloc (cell_alloc (show U.drew.cell? _ = _ from s1) _) _, cell_alloc (cell_alloc (show U.drew.cell? _ = _ from s2) _) _, cell_alloc (qAd _) _⟩) (fun hHeld => ?_)
            clear hK K
            (try simp only [Act.put, List.setIfInBounds_toArray, List.set_cons_zero, List.set_cons_succ])
            have OW := ((Owns.one E0').cons (below_box _ (Obj.cells #[] 61)) (own_empty _ _ 61 3 (Nat.le_refl _)) (Nat.le_refl _) (by simp))
            rw [show (U.drew.alloc (Obj.cells #[] 3)).heap.size = U.heap.size + 1 from by rw [World.size_alloc]; rfl] at OW
            refine wpAnyH_ready (rs := [7]) (by kernel_rfl) (by simp) ?_
            refine AllReadyH.cons (o := ?_) (by simp only [List.getElem?_toArray, List.getElem?_cons_succ, List.getElem?_cons_zero]; rfl) (fun K hK => ?_) AllReadyH.nil
            (refine step_app0 _ (by rfl) _ _ _ (by rfl) U.heap.size 3 j0 _ 1 8 Try.underlying56 hi' hz0' hz1' hz2' rfl (by omega) (.slice (some ⟨_, 0, none⟩) 0 0) (by rfl) (OW.get (r := ⟨3, 1, _, 0, []⟩) (by simp)) iA iN iC (intCells ids) (by rfl) (((hiU.drew.alloc _).alloc _)) (intCells_one _) (by unfold maxLen; omega) (by omega) (by simp <;> omega) ?_; intro A6 c6 w6 o6 g6 at6 b6; have B6 : Hid (Below U.heap.size U w6) := (by refine Below.trans ?_ b6; go_grown <;> omega); have q6 := cell_keep B6.out q0; have O6 := OW.turn (i := 1) rfl g6 o6 (own_sides at6))
            refine hK.out _ _ (⟨cell_keep B6.out s0, cell_keep B6.out s1, cell_keep B6.out s2, q6⟩) (fun hHeld => ?_)
            clear hK K
            (try simp only [Act.put, List.setIfInBounds_toArray, List.set_cons_zero, List.set_cons_succ])
            refine wpAnyH_ready (rs := [11]) (by kernel_rfl) (by simp) ?_
            refine AllReadyH.cons (o := ?_) (by simp only [List.getElem?_toArray, List.getElem?_cons_succ, List.getElem?_cons_zero]; rfl) (fun K hK => ?_) AllReadyH.nil
            (refine step_app0 _ (by rfl) _ _ _ (by rfl) U.heap.size 61 k0 _ 3 24 Try.underlying57 hi3 hz03 hz13 hz23 rfl (by omega) (.slice (some ⟨_, 0, none⟩) 0 0) (by rfl) (O6.get (r := ⟨61, 3, _, 0, []⟩) (by simp)) lA lN lC (layCells lays) (by rfl) (hlU.below B6.out) (layCells_one _) (by unfold maxLen; omega) (by omega) (by have := B6.out.size; simp <;> omega) ?_; intro A7 c7 w7 o7 g7 at7 b7; have B7 : Hid (Below U.heap.size U w7) := Lib.hid (B6.out.trans b7); have oo7 := own_below oU B7.out; have q7 := cell_keep B7.out q0; have q7A := cell_alloc q7; have Q7 := Lib.hid (blk_keep B7.out QU.out); have O7 : Owns w7 wr.heap.size w7.heap.size [⟨3, 1, .slice A6 iN c6, iN, intCells ids⟩, ⟨61, 3, .slice A7 lN c7, lN, layCells lays⟩] := (((O6.turn (i := 0) rfl g7 o7 (own_sides at7)).perm (List.Perm.swap _ _ _)).mono (by rw [US.out]; omega) (Nat.le_refl _)).top)
            refine hK.out _ _ (⟨cell_keep B7.out s0, cell_keep B7.out s1, cell_keep B7.out s2, q7⟩) (fun hHeld => ?_)
            clear hK K
            (try simp only [Act.put, List.setIfInBounds_toArray, List.set_cons_zero, List.set_cons_succ])
            clear o6 o7 g6 g7 at6 at7 b6 b7 B6 q6 O6 OW
        rotate_left 2
        focus
          go_simp
          refine hK.out _ _ (⟨cell_alloc (show U.drew.cell? _ = _ from s0) _, cell_alloc (show U.drew.cell? _ = _ from s1) _, cell_alloc (show U.drew.cell? _ = _ from s2) _, qAd _⟩) (fun hHeld => ?_)
          clear hK K
          (try simp only [Act.put, List.setIfInBounds_toArray, List.set_cons_zero, List.set_cons_succ])
          refine wpAnyH_ready (rs := [4]) (by kernel_rfl) (by simp) ?_
          refine AllReadyH.cons (o := ?_) (by simp only [List.getElem?_toArray, List.getElem?_cons_succ, List.getElem?_cons_zero]; rfl) (fun K hK => ?_) AllReadyH.nil
          go_simp
          refine hK.out _ _ (⟨cell_alloc (cell_alloc (show U.drew.cell? _ = _ from s0) _) _, cell_alloc (cell_alloc (show U.drew.cell? _ = _ from s1) _) _, cell_alloc (cell_alloc (show U.drew.cell? _ = _ from s2) _) _, cell_alloc (qAd _) _⟩) (fun hHeld => ?_)
          clear hK K
          (try simp only [Act.put, List.setIfInBounds_toArray, List.set_cons_zero, List.set_cons_succ])
          have OW := ((Owns.one L0').cons (below_box _ (Obj.cells #[] 3)) (own_empty _ _ 3 1 (Nat.le_refl _)) (Nat.le_refl _) (by simp))
          rw [show (U.drew.alloc (Obj.cells #[] 61)).heap.size = U.heap.size + 1 from by rw [World.size_alloc]; rfl] at OW
          refine wpAnyH_ready (rs := [7]) (by kernel_rfl) (by simp) ?_
          refine AllReadyH.cons (o := ?_) (by simp only [List.getElem?_toArray, List.getElem?_cons_succ, List.getElem?_cons_zero]; rfl) (fun K hK => ?_) AllReadyH.nil
          (refine step_app0 _ (by rfl) _ _ _ (by rfl) U.heap.size 3 j0 _ 1 8 Try.underlying56 hi' hz0' hz1' hz2' rfl (by omega) (.slice (some ⟨_, 0, none⟩) 0 0) (by rfl) (OW.get (r := ⟨3, 1, _, 0, []⟩) (by simp)) iA iN iC (intCells ids) (by rfl) (((hiU.drew.alloc _).alloc _)) (intCells_one _) (by unfold maxLen; omega) (by omega) (by simp <;> omega) ?_; intro A6 c6 w6 o6 g6 at6 b6; have B6 : Hid (Below U.heap.size U w6) := (by refine Below.trans ?_ b6; go_grown <;> omega); have q6 := cell_keep B6.out q0; have O6 := OW.turn (i := 0) rfl g6 o6 (own_sides at6))
          refine hK.out _ _ (⟨cell_keep B6.out s0, cell_keep B6.out s1, cell_keep B6.out s2, q6⟩) (fun hHeld => ?_)
          clear hK K
          (try simp only [Act.put, List.setIfInBounds_toArray, List.set_cons_zero, List.set_cons_succ])
          refine wpAnyH_ready (rs := [11]) (by kernel_rfl) (by simp) ?_
          refine AllReadyH.cons (o := ?_) (by simp only [List.getElem?_toArray, List.getElem?_cons_succ, List.getElem?_cons_zero]; rfl) (fun K hK => ?_) AllReadyH.nil
          (refine step_app0 _ (by rfl) _ _ _ (by rfl) U.heap.size 61 k0 _ 3 24 Try.underlying57 hi3 hz03 hz13 hz23 rfl (by omega) (.slice (some ⟨_, 0, none⟩) 0 0) (by rfl) (O6.get (r := ⟨61, 3, _, 0, []⟩) (by simp)) lA lN lC (layCells lays) (by rfl) (hlU.below B6.out) (layCells_one _) (by unfold maxLen; omega) (by omega) (by have := B6.out.size; simp <;> omega) ?_; intro A7 c7 w7 o7 g7 at7 b7; have B7 : Hid (Below U.heap.size U w7) := Lib.hid (B6.out.trans b7); have oo7 := own_below oU B7.out; have q7 := cell_keep B7.out q0; have q7A := cell_alloc q7; have Q7 := Lib.hid (blk_keep B7.out QU.out); have O7 : Owns w7 wr.heap.size w7.heap.size [⟨3, 1, .slice A6 iN c6, iN, intCells ids⟩, ⟨61, 3, .slice A7 lN c7, lN, layCells lays⟩] := (((O6.turn (i := 1) rfl g7 o7 (own_sides at7)).perm (List.Perm.refl _)).mono (by rw [US.out]; omega) (Nat.le_refl _)).top)
          refine hK.out _ _ (⟨cell_keep B7.out s0, cell_keep B7.out s1, cell_keep B7.out s2, q7⟩) (fun hHeld => ?_)
          clear hK K
          (try simp only [Act.put, List.setIfInBounds_toArray, List.set_cons_zero, List.set_cons_succ])
          clear o6 o7 g6 g7 at6 at7 b6 b7 B6 q6 O6 OW
        all_goals
          refine wpAnyH_take (i := 12) (oi := ?_) (v := ?_) (by simp only [List.getElem?_toArray, List.getElem?_cons_succ, List.getElem?_cons_zero]; rfl) (by kernel_rfl) (by kernel_rfl) (by kernel_rfl) ?_ (Or.inl ⟨by rfl, ?_⟩) hHeld ?_
          rotate_left 1
          focus exact CutPost.panic fun _ _ _ h => h
          focus (intro w hSw; (try dsimp only at hSw); go_simp; try with_reducible rfl)
          (try simp only [Act.put, List.setIfInBounds_toArray, List.set_cons_zero, List.set_cons_succ])
          refine wpAnyH_ready (rs := [13]) (by kernel_rfl) (by simp) ?_
          refine AllReadyH.cons (o := ?_) (by simp only [List.getElem?_toArray, List.getElem?_cons_succ, List.getElem?_cons_zero]; rfl) (fun K hK => ?_) AllReadyH.nil
          go_simp
          refine hK.out _ _ (⟨cell_alloc (cell_keep B7.out s0) _, cell_alloc (cell_keep B7.out s1) _, cell_alloc (cell_keep B7.out s2) _, q7A _⟩) (fun hHeld => ?_)
          clear hK K
          (try simp only [Act.put, List.setIfInBounds_toArray, List.set_cons_zero, List.set_cons_succ])
          refine wpAnyH_ready (rs := [14]) (by kernel_rfl) (by simp) ?_
          refine AllReadyH.cons (o := ?_) (by simp only [List.getElem?_toArray, List.getElem?_cons_succ, List.getElem?_cons_zero]; rfl) (fun K hK => ?_) AllReadyH.nil
          (refine step_app _ (by rfl) _ _ _ (by rfl) V.heap.size 59 i0 _ 3 64 Try.underlying28 hi hz0 hz1 hz2 rfl (by omega) (.slice A2 j c2) j xs (by rfl) (by first | exact oo7 | exact oo7.drew | exact (oo7.alloc _) | exact (oo7.alloc _).drew | exact (oo7.drew.alloc _) | exact (oo7.drew.alloc _).drew) _ 1 1 [.string item, .slice A6 iN c6, .slice A7 lN c7] (by rfl) (by first | exact RS_new (by simp) | exact (RS_new (by simp)).drew) (by simp [Value.oneCell']) (by unfold maxLen; omega) (by omega) (by have := B7.out.size; have := US.out; simp; omega) ?_; intro A8 c8 w8 o8 g8 at8 b8; have Q8 := Lib.hid ((b8.block q qV).trans (blk_alloc Q7.out (Obj.cells #[.string item, .slice A6 iN c6, .slice A7 lN c7] 59))); have q8 := blk_at Q8.out (j := 0) rfl; have f8 := blk_free Q8.out 0)
          refine hK.out _ _ (by refine ⟨?_, ?_, ?_, q8⟩ <;> (rw [g8.cell_far _ (by have := B7.out.size; have := US.out; simp; omega) (Ne.symm ag)]; first | exact cell_alloc (cell_keep B7.out s0) _ | exact cell_alloc (cell_keep B7.out s1) _ | exact cell_alloc (cell_keep B7.out s2) _)) (fun hHeld => ?_)
          clear hK K
          (try simp only [Act.put, List.setIfInBounds_toArray, List.set_cons_zero, List.set_cons_succ])
          refine wpAnyH_take (i := 15) (oi := ?_) (v := ?_) (by simp only [List.getElem?_toArray, List.getElem?_cons_succ, List.getElem?_cons_zero]; rfl) (by kernel_rfl) (by kernel_rfl) (by kernel_rfl) ?_ (Or.inl ⟨by rfl, ?_⟩) hHeld ?_
          rotate_left 1
          focus exact CutPost.panic fun _ _ _ h => h
          focus (intro w hSw; (try dsimp only at hSw); go_simp; try with_reducible rfl)
          (try simp only [Act.put, List.setIfInBounds_toArray, List.set_cons_zero, List.set_cons_succ])
          refine wpAnyH_done (by kernel_rfl) ?_ _
          refine CutPost.step (o := ?_) (by simp only [List.getElem?_toArray, List.getElem?_cons_succ, List.getElem?_cons_zero]; rfl) (fun K hK => ?_)
          go_simp
          refine hK _ _ ?_
          clear hK K
          (try simp only [Act.put, List.setIfInBounds_toArray, List.set_cons_zero, List.set_cons_succ])
          have O67 := O7.below (below_box w7 (Obj.cells #[.string item, .slice A6 iN c6, .slice A7 lN c7] 59))
          have BW7 : Below wr.heap.size wr (w7.alloc (Obj.cells #[.string item, .slice A6 iN c6, .slice A7 lN c7] 59)) := (BU.out.trans (B7.out.mono (by rw [US.out]; omega))).alloc (Nat.le_trans (Nat.le_trans (Nat.le_succ _) (Nat.le_of_eq US.out.symm)) B7.out.size) _
          have SO8 := TT.out (w7.alloc (Obj.cells #[.string item, .slice A6 iN c6, .slice A7 lN c7] 59)) w8 ⟨item, A6, iN, c6, A7, lN, c7⟩ ⟨item, ids, lays⟩ (.slice A8 (j + 1) c8) BW7 rfl O67.top g8 o8 (own_sides at8)
          rw [← TS.out] at SO8
          have B8 : Below V.heap.size wr w8 := (BW7.mono hz).trans b8
          have OD8 := (OD2.low B8 F4).within (Within.of_grown (grown_set w8 ⟨q, 0, none⟩ (.slice A8 (j + 1) c8)) (lo := q) (hi := q + 1) (fun r hr => by injection hr with hr; simp only at hr; omega)) (by omega)
          have SO9 := (SO8.set ⟨q, 0, none⟩ (.slice A8 (j + 1) c8) qV).top
          have Q9 := heap_setCell_same w8 q 0 _ _ (.slice A8 (j + 1) c8) Q8.out
          have HB9 := (hb.trans (B8.mono (Nat.le_trans F3 (Nat.le_of_lt qV)))).setCell (p := ⟨q, 0, none⟩) F3 (.slice A8 (j + 1) c8)
          have z9 : V.heap.size ≤ (w8.setCell ⟨q, 0, none⟩ (.slice A8 (j + 1) c8)).heap.size := by have := B8.size; simp [World.setCell]; omega
          go_wp2_with fail
          go_roundw
          case rel => exact ⟨j + 1, A8, c8, by omega, by go_num, Q9, SO9, OD8, HB9, z9⟩
          case measure => simp [intOf]; omega
      · obtain rfl : sn = j := by omega
        have TK := Lib.hid (show ss.take sn = ss by rw [List.take_of_length_le (by rw [hl.out]; exact Nat.le_refl _)])
        rw [TK.out] at SO
        have q0 := blk_at QH.out (j := 0) rfl; have q1 := blk_at QH.out (j := 1) rfl; have q2 := blk_at QH.out (j := 2) rfl
        have ZW := Lib.hid ((hb.block (w.heap.size + 1) (by rw [WS.out]; omega)).trans Z.out)
        have r0 := blk_at ZW.out (j := 0) rfl; have r1 := blk_at ZW.out (j := 1) rfl; have r2 := blk_at ZW.out (j := 2) rfl; have rf := blk_free ZW.out
        have lw : w.heap.size + 1 < lo := by have := WS.out; omega
        have BK := (((BooksO.of3 OD2 SO (by omega) (by omega)).set ⟨w.heap.size + 1, 0, none⟩ (.slice A2 sn c2) lw).set ⟨w.heap.size + 1, 1, none⟩ (.int .i64 k) lw).set ⟨w.heap.size + 1, 2, none⟩ (.slice A1 dn c1) lw
        have BB := ((((below_app b0.out hb b0.out.size)).setCell (p := ⟨w.heap.size + 1, 0, none⟩) (Nat.le_succ _) (.slice A2 sn c2)).setCell (p := ⟨w.heap.size + 1, 1, none⟩) (Nat.le_succ _) (.int .i64 k)).setCell (p := ⟨w.heap.size + 1, 2, none⟩) (Nat.le_succ _) (.slice A1 dn c1)
        go_wp2_with fail
        refine bodyPost_ret (v := .agg #[.slice A2 sn c2, .int .i64 k, .slice A1 dn c1]) (by simp [results, Try.results56, go_sem, r0, r1, r2]) rfl ⟨A2, c2, A1, c1, rfl, ?_, BB⟩
        exact BK.top.mono (by have := WS.out; omega) (Nat.le_refl _)
end Go.Proofs.Ytlgodbjbllpipaa
namespace Go.Proofs.Ytlgodbjbllpipaa
open Go.ChangeShapes Go.WideShapes Go.ChangeAt Go.RowKit

set_option maxRecDepth 100000 in
set_option maxHeartbeats 8000000 in
theorem implBookEv (sA : Option Addr) (sn sc : Nat) (k : Int) (dA : Option Addr) (dn dc : Nat) (ss : List Shf) (ds : List Doc) (e : Ev) (w : World) (hr : ShelvesR w sA sn ss) (hd : DocsR w dA dn ds) (hn : sn ≤ 1048600) (hm : dn ≤ 1048600) (hss : shsSmall ss) (hds : docsSmall ds) (he : e.item.size ≤ 9223372036854775807) :
    Calls Try.prog 26 #[.agg #[.slice sA sn sc, .int .i64 k, .slice dA dn dc], evAgg e] w fun r w' => ∃ A n c D m d, r = .returned (.tuple #[.agg #[.slice A n c, .int .i64 (bookEv ⟨ss, k, ds⟩ e).2.k, .slice D m d], .int .i64 (bookEv ⟨ss, k, ds⟩ e).1]) ∧
      BooksO w' w.heap.size w'.heap.size (.slice A n c) n (bookEv ⟨ss, k, ds⟩ e).2.ss (.slice D m d) m (bookEv ⟨ss, k, ds⟩ e).2.ds ∧ Below w.heap.size w w' := by
  have SS := Lib.hid hss; have DS := Lib.hid hds
  have S2 := Lib.hid (fun s hs => (hss s hs).2); have D2 := Lib.hid (fun d hd => (hds d hd).1)
  clear hss hds
  obtain ⟨id, day, kind, item, eq, ea, er⟩ := e
  simp only at he
  have b0 := Lib.hid (below_then (below_then (below_box w (Obj.cells #[.slice sA sn sc, .int .i64 k, .slice dA dn dc] 31)) (below_box _ (Obj.cells #[.int .i64 id, .int .i64 day, .int .i64 kind, .string item, .int .i64 eq, .int .i64 ea, .int .i64 er] 44))) (below_box _ (Obj.cells #[.slice none 0 0, .int .i64 0, .slice none 0 0] 31)))
  have Q := Lib.hid (blk_alloc (blk_alloc (blk_new1 w (Obj.cells #[.slice sA sn sc, .int .i64 k, .slice dA dn dc] 31)) (Obj.cells #[.int .i64 id, .int .i64 day, .int .i64 kind, .string item, .int .i64 eq, .int .i64 ea, .int .i64 er] 44)) (Obj.cells #[.slice none 0 0, .int .i64 0, .slice none 0 0] 31))
  have E := Lib.hid (blk_alloc (blk_new2 w (Obj.cells #[.slice sA sn sc, .int .i64 k, .slice dA dn dc] 31) (Obj.cells #[.int .i64 id, .int .i64 day, .int .i64 kind, .string item, .int .i64 eq, .int .i64 ea, .int .i64 er] 44)) (Obj.cells #[.slice none 0 0, .int .i64 0, .slice none 0 0] 31))
  have Z := Lib.hid (blk_new3 w (Obj.cells #[.slice sA sn sc, .int .i64 k, .slice dA dn dc] 31) (Obj.cells #[.int .i64 id, .int .i64 day, .int .i64 kind, .string item, .int .i64 eq, .int .i64 ea, .int .i64 er] 44) (Obj.cells #[.slice none 0 0, .int .i64 0, .slice none 0 0] 31))
  go_enter Try.func26, Try.ntmps26
  go_wp2_with fail
  have WS : (((w.alloc (Obj.cells #[.slice sA sn sc, .int .i64 k, .slice dA dn dc] 31)).alloc (Obj.cells #[.int .i64 id, .int .i64 day, .int .i64 kind, .string item, .int .i64 eq, .int .i64 ea, .int .i64 er] 44)).alloc (Obj.cells #[.slice none 0 0, .int .i64 0, .slice none 0 0] 31)).heap.size = w.heap.size + 1 + 1 + 1 := by simp
  generalize ((w.alloc (Obj.cells #[.slice sA sn sc, .int .i64 k, .slice dA dn dc] 31)).alloc (Obj.cells #[.int .i64 id, .int .i64 day, .int .i64 kind, .string item, .int .i64 eq, .int .i64 ea, .int .i64 er] 44)).alloc (Obj.cells #[.slice none 0 0, .int .i64 0, .slice none 0 0] 31) = W at *
  replace WS := Lib.hid WS
  have hrW := hr.below b0.out; have hdW := hd.below b0.out
  refine (implCopyBk _ _ _ k _ _ _ ss ds W hrW hdW hn hm S2.out D2.out).mono ?_; rintro r w1 ⟨A1, c1, D1, d1, rfl, O1, hb1⟩
  have Q1 := Lib.hid (blk_keep hb1 Q.out); have E1 := Lib.hid (blk_keep hb1 E.out); have Z1 := Lib.hid (blk_keep hb1 Z.out)
  have y0 := blk_at Q1.out (j := 0) rfl
  clear y0
  go_upto_region 2 with fail
  obtain ⟨U, hU⟩ : ∃ U, U = w1.alloc (Obj.cells #[.slice A1 sn c1, .int .i64 k, .slice D1 dn d1] 31) := ⟨_, rfl⟩
  have bU := Lib.hid (show Below w1.heap.size w1 U by rw [hU]; exact below_box _ _)
  have QU := Lib.hid (blk_keep bU.out Q1.out); have EU := Lib.hid (blk_keep bU.out E1.out); have ZU := Lib.hid (blk_keep bU.out Z1.out)
  have VU := Lib.hid (show U.heap[w1.heap.size]? = some (Obj.cells #[.slice A1 sn c1, .int .i64 k, .slice D1 dn d1] 31 (0, 0)) by rw [hU]; exact blk_new1 _ _)
  have HU := Lib.hid (show BkO U W.heap.size w1.heap.size ss k ds from ⟨A1, sn, c1, D1, dn, d1, VU.out, hb1.size, (O1.below bU.out).top⟩)
  have OU := Lib.hid (O1.below bU.out).top
  have zU : W.heap.size ≤ U.heap.size := Nat.le_trans hb1.size bU.out.size
  have WL : w.heap.size + 1 + 1 < W.heap.size := by rw [WS.out]; omega
  have BU := Lib.hid (b0.out.trans ((hb1.trans (bU.out.mono hb1.size)).mono (by omega)))
  rw [← hU]
  obtain ⟨q, hq⟩ : ∃ q, q = w1.heap.size := ⟨_, rfl⟩
  rw [← hq] at VU HU ⊢
  clear hU Q1 E1 Z1 O1 hb1 bU Q E Z hrW hdW hq
  have x0 := blk_at QU.out (j := 0) rfl; have x1 := blk_at QU.out (j := 1) rfl; have x2 := blk_at QU.out (j := 2) rfl
  cases hA : areBk ss k ds
  · have R := Lib.hid (show bookEv ⟨ss, k, ds⟩ ⟨id, day, kind, item, eq, ea, er⟩ = (1, ⟨ss, k, ds⟩) by simp [bookEv, hA])
    have HA := Lib.hid hA; clear hA
    go_wp2_with fail
    refine (implAreBooks _ _ _ k _ _ _ ss ds U (hr.below BU.out) (hd.below BU.out) hn hm SS.out DS.out).mono ?_; rw [HA.out]; rintro r w2 ⟨rfl, hb2⟩
    have V2 := Lib.hid (blk_keep hb2 VU.out); have Z2 := Lib.hid (blk_keep hb2 ZU.out)
    have B2 := Lib.hid (below_app BU.out hb2 BU.out.size)
    have O2 := Lib.hid (OU.out.below hb2).top
    clear x0 x1 x2 hb2
    have v0 := blk_at V2.out (j := 0) rfl; have v1 := blk_at V2.out (j := 1) rfl; have v2 := blk_at V2.out (j := 2) rfl
    have z0 := blk_at Z2.out (j := 0) rfl; have z1 := blk_at Z2.out (j := 1) rfl; have z2 := blk_at Z2.out (j := 2) rfl; have zf := blk_free Z2.out
    go_wp2_with fail
    rw [R.out]
    refine bodyPost_ret (v := .tuple #[.agg #[.slice A1 sn c1, .int .i64 k, .slice D1 dn d1], .int .i64 1]) (by simp [results, Try.results26, go_sem, z0, z1, z2]) rfl ⟨A1, sn, c1, D1, dn, d1, rfl, ?_, below_out3 B2.out (by omega) _ _ _⟩
    exact (BooksO.out3 O2.out Z2.out _ _ _).top.mono (by omega) (Nat.le_refl _)
  · have HA := Lib.hid hA; clear hA
    cases hE : isEvent ⟨id, day, kind, item, eq, ea, er⟩
    · have R := Lib.hid (show bookEv ⟨ss, k, ds⟩ ⟨id, day, kind, item, eq, ea, er⟩ = (1, ⟨ss, k, ds⟩) by simp [bookEv, HA.out, hE])
      have HE := Lib.hid hE; clear hE
      go_wp2_with fail
      refine (implAreBooks _ _ _ k _ _ _ ss ds U (hr.below BU.out) (hd.below BU.out) hn hm SS.out DS.out).mono ?_; rw [HA.out]; rintro r w2 ⟨rfl, hb2⟩
      have V2 := Lib.hid (blk_keep hb2 VU.out); have Z2 := Lib.hid (blk_keep hb2 ZU.out); have E2 := Lib.hid (blk_keep hb2 EU.out)
      have B2 := Lib.hid (below_app BU.out hb2 BU.out.size)
      have O2 := Lib.hid (OU.out.below hb2).top
      clear x0 x1 x2 hb2
      obtain ⟨y0, y1, y2, y3, y4, y5, y6⟩ := evCells (e := ⟨id, day, kind, item, eq, ea, er⟩) E2.out
      simp only at y0 y1 y2 y3 y4 y5 y6
      go_wp2_with fail
      refine (implIsEvent ⟨id, day, kind, item, eq, ea, er⟩ _ he).mono ?_; rw [HE.out]; rintro r w3 ⟨rfl, hb3⟩
      clear y0 y1 y2 y3 y4 y5 y6
      have V3 := Lib.hid (blk_keep hb3 V2.out); have Z3 := Lib.hid (blk_keep hb3 Z2.out)
      have B3 := Lib.hid (below_app B2.out hb3 B2.out.size)
      have O3 := Lib.hid (O2.out.below hb3).top
      clear hb3
      have v0 := blk_at V3.out (j := 0) rfl; have v1 := blk_at V3.out (j := 1) rfl; have v2 := blk_at V3.out (j := 2) rfl
      have z0 := blk_at Z3.out (j := 0) rfl; have z1 := blk_at Z3.out (j := 1) rfl; have z2 := blk_at Z3.out (j := 2) rfl; have zf := blk_free Z3.out
      go_wp2_with fail
      rw [R.out]
      refine bodyPost_ret (v := .tuple #[.agg #[.slice A1 sn c1, .int .i64 k, .slice D1 dn d1], .int .i64 1]) (by simp [results, Try.results26, go_sem, z0, z1, z2]) rfl ⟨A1, sn, c1, D1, dn, d1, rfl, ?_, below_out3 B3.out (by omega) _ _ _⟩
      exact (BooksO.out3 O3.out Z3.out _ _ _).top.mono (by omega) (Nat.le_refl _)
    · have HE := Lib.hid hE; clear hE
      by_cases hc : (bookB ⟨ss, k, ds⟩ ⟨id, day, kind, item, eq, ea, er⟩).1 = 0
      all_goals
        have HC := Lib.hid hc; clear hc
        go_wp2_with fail
        refine (implAreBooks _ _ _ k _ _ _ ss ds U (hr.below BU.out) (hd.below BU.out) hn hm SS.out DS.out).mono ?_; rw [HA.out]; rintro r w2 ⟨rfl, hb2⟩
        have Q2 := Lib.hid (blk_keep hb2 QU.out); have V2 := Lib.hid (blk_keep hb2 VU.out); have Z2 := Lib.hid (blk_keep hb2 ZU.out); have E2 := Lib.hid (blk_keep hb2 EU.out)
        have B2 := Lib.hid (below_app BU.out hb2 BU.out.size)
        have H2 := Lib.hid (HU.out.below hb2)
        have s2 : W.heap.size ≤ w2.heap.size := Nat.le_trans zU hb2.size
        clear x0 x1 x2 hb2
        obtain ⟨y0, y1, y2, y3, y4, y5, y6⟩ := evCells (e := ⟨id, day, kind, item, eq, ea, er⟩) E2.out
        simp only at y0 y1 y2 y3 y4 y5 y6
        go_wp2_with fail
        refine (implIsEvent ⟨id, day, kind, item, eq, ea, er⟩ _ he).mono ?_; rw [HE.out]; rintro r w3 ⟨rfl, hb3⟩
        clear y0 y1 y2 y3 y4 y5 y6
        have Q3 := Lib.hid (blk_keep hb3 Q2.out); have Z3 := Lib.hid (blk_keep hb3 Z2.out); have E3 := Lib.hid (blk_keep hb3 E2.out)
        have B3 := Lib.hid (below_app B2.out hb3 B2.out.size)
        have H3 := Lib.hid (H2.out.below hb3)
        have s3 : W.heap.size ≤ w3.heap.size := Nat.le_trans s2 hb3.size
        clear hb3
        obtain ⟨y0, y1, y2, y3, y4, y5, y6⟩ := evCells (e := ⟨id, day, kind, item, eq, ea, er⟩) E3.out
        simp only at y0 y1 y2 y3 y4 y5 y6
        go_wp2_with fail
        refine (implBookBk W.heap.size q ⟨ss, k, ds⟩ ⟨id, day, kind, item, eq, ea, er⟩ w3 H3.out s3 HA.out HE.out DS.out).mono ?_; rintro r w4 ⟨rfl, h4, hb4⟩
        clear y0 y1 y2 y3 y4 y5 y6
        have Q4 := Lib.hid ((hb4.block w.heap.size (by omega)).trans Q3.out); have Z4 := Lib.hid ((hb4.block (w.heap.size + 1 + 1) (by omega)).trans Z3.out)
        have B4 := Lib.hid (B3.out.trans (hb4.mono (by omega)))
        have z0 := blk_at Z4.out (j := 0) rfl; have z1 := blk_at Z4.out (j := 1) rfl; have z2 := blk_at Z4.out (j := 2) rfl; have zf := blk_free Z4.out
      · have R := Lib.hid (show bookEv ⟨ss, k, ds⟩ ⟨id, day, kind, item, eq, ea, er⟩ = (0, (bookB ⟨ss, k, ds⟩ ⟨id, day, kind, item, eq, ea, er⟩).2) by simp only [bookEv, HA.out, HE.out, Bool.and_self, if_true, HC.out]; exact Prod.ext HC.out rfl)
        obtain ⟨A, n, c, D, m, d, hq4, _, O4⟩ := h4 HC.out
        have O4' := Lib.hid O4; have V4 := Lib.hid hq4
        clear h4 hb4 O4 hq4
        rw [HC.out]
        obtain ⟨kk, hkk⟩ : ∃ kk, kk = (bookB ⟨ss, k, ds⟩ ⟨id, day, kind, item, eq, ea, er⟩).2.k := ⟨_, rfl⟩
        rw [← hkk] at V4
        have v0 := blk_at V4.out (j := 0) rfl; have v1 := blk_at V4.out (j := 1) rfl; have v2 := blk_at V4.out (j := 2) rfl
        have HK := Lib.hid hkk; clear hkk
        go_wp2_with fail
        rw [R.out]
        refine bodyPost_ret (v := .tuple #[.agg #[.slice A n c, .int .i64 kk, .slice D m d], .int .i64 0]) (by simp [results, Try.results26, go_sem, z0, z1, z2]) rfl ⟨A, n, c, D, m, d, by rw [HK.out], ?_, below_out3 B4.out (by omega) _ _ _⟩
        exact (BooksO.out3 O4'.out Z4.out _ _ _).top.mono (by omega) (Nat.le_refl _)
      · have R := Lib.hid (show bookEv ⟨ss, k, ds⟩ ⟨id, day, kind, item, eq, ea, er⟩ = ((bookB ⟨ss, k, ds⟩ ⟨id, day, kind, item, eq, ea, er⟩).1, ⟨ss, k, ds⟩) by simp only [bookEv, HA.out, HE.out, Bool.and_self, if_true, if_neg HC.out])
        clear h4 hb4 z0 z1 z2 zf
        obtain ⟨cd, hcd⟩ : ∃ cd, cd = (bookB ⟨ss, k, ds⟩ ⟨id, day, kind, item, eq, ea, er⟩).1 := ⟨_, rfl⟩
        rw [← hcd] at HC R ⊢
        have cn := HC.out
        clear hcd
        have x0 := blk_at Q4.out (j := 0) rfl; have x1 := blk_at Q4.out (j := 1) rfl; have x2 := blk_at Q4.out (j := 2) rfl
        go_wp2_with fail
        refine (implCopyBk _ _ _ k _ _ _ ss ds w4 (hr.below B4.out) (hd.below B4.out) hn hm S2.out D2.out).mono ?_; rintro r w5 ⟨A5, c5, D5, d5, rfl, O5, hb5⟩
        have Z5 := Lib.hid (blk_keep hb5 Z4.out)
        have B5 := Lib.hid (below_app B4.out hb5 B4.out.size)
        have O5' := Lib.hid O5
        have s5 := B4.out.size
        clear x0 x1 x2 O5 hb5
        have z0 := blk_at Z5.out (j := 0) rfl; have z1 := blk_at Z5.out (j := 1) rfl; have z2 := blk_at Z5.out (j := 2) rfl; have zf := blk_free Z5.out
        go_wp2_with fail
        rw [R.out]
        refine bodyPost_ret (v := .tuple #[.agg #[.slice A5 sn c5, .int .i64 k, .slice D5 dn d5], .int .i64 cd]) (by simp [results, Try.results26, go_sem, z0, z1, z2]) rfl ⟨A5, sn, c5, D5, dn, d5, rfl, ?_, below_out3 B5.out (by omega) _ _ _⟩
        exact (BooksO.out3 O5'.out Z5.out _ _ _).top.mono s5 (Nat.le_refl _)
set_option maxRecDepth 100000 in
set_option maxHeartbeats 8000000 in
theorem specBookEv (sA : Option Addr) (sn sc : Nat) (k : Int) (dA : Option Addr) (dn dc : Nat) (ss : List Shf) (ds : List Doc) (e : Ev) (w : World) (hr : ShelvesR w sA sn ss) (hd : DocsR w dA dn ds) (hn : sn ≤ 1048600) (hm : dn ≤ 1048600) (hss : shsSmall ss) (hds : docsSmall ds) (he : e.item.size ≤ 9223372036854775807) :
    Calls Try.prog 24 #[.agg #[.slice sA sn sc, .int .i64 k, .slice dA dn dc], evAgg e] w fun r w' => ∃ A n c D m d, r = .returned (.tuple #[.agg #[.slice A n c, .int .i64 (bookEv ⟨ss, k, ds⟩ e).2.k, .slice D m d], .int .i64 (bookEv ⟨ss, k, ds⟩ e).1]) ∧
      BooksO w' w.heap.size w'.heap.size (.slice A n c) n (bookEv ⟨ss, k, ds⟩ e).2.ss (.slice D m d) m (bookEv ⟨ss, k, ds⟩ e).2.ds ∧ Below w.heap.size w w' := by
  have SS := Lib.hid hss; have DS := Lib.hid hds
  have S2 := Lib.hid (fun s hs => (hss s hs).2); have D2 := Lib.hid (fun d hd => (hds d hd).1)
  clear hss hds
  obtain ⟨id, day, kind, item, eq, ea, er⟩ := e
  simp only at he
  have b0 := Lib.hid (below_then (below_then (below_box w (Obj.cells #[.slice sA sn sc, .int .i64 k, .slice dA dn dc] 31)) (below_box _ (Obj.cells #[.int .i64 id, .int .i64 day, .int .i64 kind, .string item, .int .i64 eq, .int .i64 ea, .int .i64 er] 44))) (below_box _ (Obj.cells #[.slice none 0 0, .int .i64 0, .slice none 0 0] 31)))
  have Q := Lib.hid (blk_alloc (blk_alloc (blk_new1 w (Obj.cells #[.slice sA sn sc, .int .i64 k, .slice dA dn dc] 31)) (Obj.cells #[.int .i64 id, .int .i64 day, .int .i64 kind, .string item, .int .i64 eq, .int .i64 ea, .int .i64 er] 44)) (Obj.cells #[.slice none 0 0, .int .i64 0, .slice none 0 0] 31))
  have E := Lib.hid (blk_alloc (blk_new2 w (Obj.cells #[.slice sA sn sc, .int .i64 k, .slice dA dn dc] 31) (Obj.cells #[.int .i64 id, .int .i64 day, .int .i64 kind, .string item, .int .i64 eq, .int .i64 ea, .int .i64 er] 44)) (Obj.cells #[.slice none 0 0, .int .i64 0, .slice none 0 0] 31))
  have Z := Lib.hid (blk_new3 w (Obj.cells #[.slice sA sn sc, .int .i64 k, .slice dA dn dc] 31) (Obj.cells #[.int .i64 id, .int .i64 day, .int .i64 kind, .string item, .int .i64 eq, .int .i64 ea, .int .i64 er] 44) (Obj.cells #[.slice none 0 0, .int .i64 0, .slice none 0 0] 31))
  go_enter Try.func24, Try.ntmps24
  have q0 := blk_at Q.out (j := 0) rfl
  clear q0
  go_upto_region 1 with fail
  have WS : (((w.alloc (Obj.cells #[.slice sA sn sc, .int .i64 k, .slice dA dn dc] 31)).alloc (Obj.cells #[.int .i64 id, .int .i64 day, .int .i64 kind, .string item, .int .i64 eq, .int .i64 ea, .int .i64 er] 44)).alloc (Obj.cells #[.slice none 0 0, .int .i64 0, .slice none 0 0] 31)).heap.size = w.heap.size + 1 + 1 + 1 := by simp
  generalize ((w.alloc (Obj.cells #[.slice sA sn sc, .int .i64 k, .slice dA dn dc] 31)).alloc (Obj.cells #[.int .i64 id, .int .i64 day, .int .i64 kind, .string item, .int .i64 eq, .int .i64 ea, .int .i64 er] 44)).alloc (Obj.cells #[.slice none 0 0, .int .i64 0, .slice none 0 0] 31) = W at *
  replace WS := Lib.hid WS
  have BU := b0
  have x0 := blk_at Q.out (j := 0) rfl; have x1 := blk_at Q.out (j := 1) rfl; have x2 := blk_at Q.out (j := 2) rfl
  cases hA : areBk ss k ds
  · have R := Lib.hid (show bookEv ⟨ss, k, ds⟩ ⟨id, day, kind, item, eq, ea, er⟩ = (1, ⟨ss, k, ds⟩) by simp [bookEv, hA])
    have HA := Lib.hid hA; clear hA
    go_wp2_with fail
    refine (specAreBooks _ _ _ k _ _ _ ss ds W (hr.below BU.out) (hd.below BU.out) hn hm SS.out DS.out).mono ?_; rw [HA.out]; rintro r w2 ⟨rfl, hb2⟩
    have Q2 := Lib.hid (blk_keep hb2 Q.out); have Z2 := Lib.hid (blk_keep hb2 Z.out)
    have B2 := Lib.hid (below_app BU.out hb2 BU.out.size)
    clear x0 x1 x2 hb2
    have x0 := blk_at Q2.out (j := 0) rfl; have x1 := blk_at Q2.out (j := 1) rfl; have x2 := blk_at Q2.out (j := 2) rfl
    go_wp2_with fail
    refine (specCopyBk _ _ _ k _ _ _ ss ds w2 (hr.below B2.out) (hd.below B2.out) hn hm S2.out D2.out).mono ?_; rintro r w5 ⟨A5, c5, D5, d5, rfl, O5, hb5⟩
    have Z5 := Lib.hid (blk_keep hb5 Z2.out)
    have B5 := Lib.hid (below_app B2.out hb5 B2.out.size)
    have O5' := Lib.hid O5
    have s5 := B2.out.size
    clear x0 x1 x2 O5 hb5
    have z0 := blk_at Z5.out (j := 0) rfl; have z1 := blk_at Z5.out (j := 1) rfl; have z2 := blk_at Z5.out (j := 2) rfl; have zf := blk_free Z5.out
    go_wp2_with fail
    rw [R.out]
    refine bodyPost_ret (v := .tuple #[.agg #[.slice A5 sn c5, .int .i64 k, .slice D5 dn d5], .int .i64 1]) (by simp [results, Try.results24, go_sem, z0, z1, z2]) rfl ⟨A5, sn, c5, D5, dn, d5, rfl, ?_, below_out3 B5.out (by omega) _ _ _⟩
    exact (BooksO.out3 O5'.out Z5.out _ _ _).top.mono s5 (Nat.le_refl _)
  · have HA := Lib.hid hA; clear hA
    cases hE : isEvent ⟨id, day, kind, item, eq, ea, er⟩
    · have R := Lib.hid (show bookEv ⟨ss, k, ds⟩ ⟨id, day, kind, item, eq, ea, er⟩ = (1, ⟨ss, k, ds⟩) by simp [bookEv, HA.out, hE])
      have HE := Lib.hid hE; clear hE
      go_wp2_with fail
      refine (specAreBooks _ _ _ k _ _ _ ss ds W (hr.below BU.out) (hd.below BU.out) hn hm SS.out DS.out).mono ?_; rw [HA.out]; rintro r w2 ⟨rfl, hb2⟩
      have Q2 := Lib.hid (blk_keep hb2 Q.out); have Z2 := Lib.hid (blk_keep hb2 Z.out); have E2 := Lib.hid (blk_keep hb2 E.out)
      have B2 := Lib.hid (below_app BU.out hb2 BU.out.size)
      clear x0 x1 x2 hb2
      obtain ⟨y0, y1, y2, y3, y4, y5, y6⟩ := evCells (e := ⟨id, day, kind, item, eq, ea, er⟩) E2.out
      simp only at y0 y1 y2 y3 y4 y5 y6
      go_wp2_with fail
      refine (specIsEvent ⟨id, day, kind, item, eq, ea, er⟩ _ he).mono ?_; rw [HE.out]; rintro r w3 ⟨rfl, hb3⟩
      clear y0 y1 y2 y3 y4 y5 y6
      have Q3 := Lib.hid (blk_keep hb3 Q2.out); have Z3 := Lib.hid (blk_keep hb3 Z2.out)
      have B3 := Lib.hid (below_app B2.out hb3 B2.out.size)
      clear hb3
      have x0 := blk_at Q3.out (j := 0) rfl; have x1 := blk_at Q3.out (j := 1) rfl; have x2 := blk_at Q3.out (j := 2) rfl
      go_wp2_with fail
      refine (specCopyBk _ _ _ k _ _ _ ss ds w3 (hr.below B3.out) (hd.below B3.out) hn hm S2.out D2.out).mono ?_; rintro r w5 ⟨A5, c5, D5, d5, rfl, O5, hb5⟩
      have Z5 := Lib.hid (blk_keep hb5 Z3.out)
      have B5 := Lib.hid (below_app B3.out hb5 B3.out.size)
      have O5' := Lib.hid O5
      have s5 := B3.out.size
      clear x0 x1 x2 O5 hb5
      have z0 := blk_at Z5.out (j := 0) rfl; have z1 := blk_at Z5.out (j := 1) rfl; have z2 := blk_at Z5.out (j := 2) rfl; have zf := blk_free Z5.out
      go_wp2_with fail
      rw [R.out]
      refine bodyPost_ret (v := .tuple #[.agg #[.slice A5 sn c5, .int .i64 k, .slice D5 dn d5], .int .i64 1]) (by simp [results, Try.results24, go_sem, z0, z1, z2]) rfl ⟨A5, sn, c5, D5, dn, d5, rfl, ?_, below_out3 B5.out (by omega) _ _ _⟩
      exact (BooksO.out3 O5'.out Z5.out _ _ _).top.mono s5 (Nat.le_refl _)
    · have HE := Lib.hid hE; clear hE
      go_wp2_with fail
      refine (specAreBooks _ _ _ k _ _ _ ss ds W (hr.below BU.out) (hd.below BU.out) hn hm SS.out DS.out).mono ?_; rw [HA.out]; rintro r w2 ⟨rfl, hb2⟩
      have Q2 := Lib.hid (blk_keep hb2 Q.out); have Z2 := Lib.hid (blk_keep hb2 Z.out); have E2 := Lib.hid (blk_keep hb2 E.out)
      have B2 := Lib.hid (below_app BU.out hb2 BU.out.size)
      clear x0 x1 x2 hb2
      obtain ⟨y0, y1, y2, y3, y4, y5, y6⟩ := evCells (e := ⟨id, day, kind, item, eq, ea, er⟩) E2.out
      simp only at y0 y1 y2 y3 y4 y5 y6
      go_wp2_with fail
      refine (specIsEvent ⟨id, day, kind, item, eq, ea, er⟩ _ he).mono ?_; rw [HE.out]; rintro r w3 ⟨rfl, hb3⟩
      clear y0 y1 y2 y3 y4 y5 y6
      have Q3 := Lib.hid (blk_keep hb3 Q2.out); have Z3 := Lib.hid (blk_keep hb3 Z2.out); have E3 := Lib.hid (blk_keep hb3 E2.out)
      have B3 := Lib.hid (below_app B2.out hb3 B2.out.size)
      clear hb3
      go_upto_region 3 with fail
      obtain ⟨u, hu⟩ : ∃ u, u = w3 := ⟨_, rfl⟩
      rw [← hu] at Q3 Z3 E3 B3 ⊢
      clear hu Q2 Z2 E2 B2 Q E Z b0 BU
      have NL : w.heap.size + 1 + 1 < u.heap.size := (Array.getElem?_eq_some_iff.1 Z3.out).1
      have sOf : ∀ v : World, v.heap[w.heap.size]? = some (Obj.cells #[.slice sA sn sc, .int .i64 k, .slice dA dn dc] 31 (0, 0)) → v.heap[w.heap.size + 1]? = some (Obj.cells #[.int .i64 id, .int .i64 day, .int .i64 kind, .string item, .int .i64 eq, .int .i64 ea, .int .i64 er] 44 (0, 0)) →
          (v.cell? ⟨w.heap.size, 0, none⟩ = some (.slice sA sn sc) ∧ v.cell? ⟨w.heap.size, 1, none⟩ = some (.int .i64 k) ∧ v.cell? ⟨w.heap.size, 2, none⟩ = some (.slice dA dn dc)) ∧
          v.cell? ⟨w.heap.size + 1, 0, none⟩ = some (.int .i64 id) ∧ v.cell? ⟨w.heap.size + 1, 1, none⟩ = some (.int .i64 day) ∧ v.cell? ⟨w.heap.size + 1, 2, none⟩ = some (.int .i64 kind) ∧ v.cell? ⟨w.heap.size + 1, 3, none⟩ = some (.string item) ∧ v.cell? ⟨w.heap.size + 1, 4, none⟩ = some (.int .i64 eq) ∧ v.cell? ⟨w.heap.size + 1, 5, none⟩ = some (.int .i64 ea) ∧ v.cell? ⟨w.heap.size + 1, 6, none⟩ = some (.int .i64 er) :=
        fun v h1 h2 => ⟨⟨blk_at h1 rfl, blk_at h1 rfl, blk_at h1 rfl⟩, evCells (e := ⟨id, day, kind, item, eq, ea, er⟩) h2⟩
      have SOF := Lib.hid sOf; clear sOf
      have ZB := Lib.hid (blk_new1 u (Obj.cells #[.slice none 0 0, .int .i64 0, .slice none 0 0] 31))
      have bA := Lib.hid (below_box u (Obj.cells #[.slice none 0 0, .int .i64 0, .slice none 0 0] 31))
      refine wp_region_cut (S := fun v => (v.cell? ⟨w.heap.size, 0, none⟩ = some (.slice sA sn sc) ∧ v.cell? ⟨w.heap.size, 1, none⟩ = some (.int .i64 k) ∧ v.cell? ⟨w.heap.size, 2, none⟩ = some (.slice dA dn dc)) ∧
          v.cell? ⟨w.heap.size + 1, 0, none⟩ = some (.int .i64 id) ∧ v.cell? ⟨w.heap.size + 1, 1, none⟩ = some (.int .i64 day) ∧ v.cell? ⟨w.heap.size + 1, 2, none⟩ = some (.int .i64 kind) ∧ v.cell? ⟨w.heap.size + 1, 3, none⟩ = some (.string item) ∧ v.cell? ⟨w.heap.size + 1, 4, none⟩ = some (.int .i64 eq) ∧ v.cell? ⟨w.heap.size + 1, 5, none⟩ = some (.int .i64 ea) ∧ v.cell? ⟨w.heap.size + 1, 6, none⟩ = some (.int .i64 er)) 9 (by kernel_rfl) (by kernel_rfl) (by simp only [List.pop_toArray, List.dropLast_cons_cons, List.dropLast_singleton]; rfl) (SOF.out u Q3.out E3.out) (fun hHeld => ?_)
      refine wpAnyH_take (i := 0) (oi := ?_) (v := ?_) (by simp only [List.getElem?_toArray, List.getElem?_cons_zero]; rfl) (by kernel_rfl) (by kernel_rfl) (by kernel_rfl) ?_ (Or.inl ⟨by rfl, ?_⟩) hHeld ?_
      rotate_left 1
      focus exact CutPost.panic fun _ _ _ h => h
      focus (intro w hSw; (try dsimp only at hSw); go_simp; try with_reducible rfl)
      (try simp only [Act.put, List.setIfInBounds_toArray, List.set_cons_zero, List.set_cons_succ])
      refine wpAnyH_take (i := 2) (oi := ?_) (v := ?_) (by simp only [List.getElem?_toArray, List.getElem?_cons_succ, List.getElem?_cons_zero]; rfl) (by kernel_rfl) (by kernel_rfl) (by kernel_rfl) ?_ (Or.inl ⟨by rfl, ?_⟩) hHeld ?_
      rotate_left 1
      focus exact CutPost.panic fun _ _ _ h => h
      focus (intro w hSw; (try dsimp only at hSw); go_simp; try with_reducible rfl)
      (try simp only [Act.put, List.setIfInBounds_toArray, List.set_cons_zero, List.set_cons_succ])
      have NW : w.heap.size ≤ u.heap.size := by omega
      refine wpAnyH_ready (rs := [1, 7]) (by kernel_rfl) (by simp) ?_
      refine AllReadyH.cons (o := ?_) (by simp only [List.getElem?_toArray, List.getElem?_cons_succ, List.getElem?_cons_zero]; rfl) (fun K hK => ?_) (AllReadyH.cons (o := ?_) (by simp only [List.getElem?_toArray, List.getElem?_cons_succ, List.getElem?_cons_zero]; rfl) (fun K hK => ?_) AllReadyH.nil)
      focus
        go_simp
        (go_at_call 56; refine (specCopyBk _ _ _ k _ _ _ ss ds _ (hr.below (B3.out.trans ((Below.refl u.heap.size u).drew.mono NW))) (hd.below (B3.out.trans ((Below.refl u.heap.size u).drew.mono NW))) hn hm S2.out D2.out).mono ?_; rintro r v1 ⟨A1, c1, D1, d1, rfl, O1, h1⟩)
        go_wp2_with fail
        have B1 := Lib.hid (show Below u.heap.size u v1 from (Below.refl _ _).drew.trans h1)
        have O1' := Lib.hid (show BooksO v1 u.heap.size v1.heap.size _ _ _ _ _ _ from O1)
        have Qa := Lib.hid (blk_keep B1.out Q3.out); have Ea := Lib.hid (blk_keep B1.out E3.out); have Za := Lib.hid (blk_keep B1.out Z3.out)
        clear h1 O1
        refine hK.out _ _ (SOF.out v1 Qa.out Ea.out) (fun hHeld => ?_)
        clear hK K
        (try simp only [Act.put, List.setIfInBounds_toArray, List.set_cons_zero, List.set_cons_succ])
        refine wpAnyH_ready (rs := [3, 7]) (by kernel_rfl) (by simp) ?_
        refine AllReadyH.cons (o := ?_) (by simp only [List.getElem?_toArray, List.getElem?_cons_succ, List.getElem?_cons_zero]; rfl) (fun K hK => ?_) (AllReadyH.cons (o := ?_) (by simp only [List.getElem?_toArray, List.getElem?_cons_succ, List.getElem?_cons_zero]; rfl) (fun K hK => ?_) AllReadyH.nil)
        focus
          go_simp
          (go_at_call 57; refine (specBookBk (u.heap.size) _ A1 sn c1 D1 dn d1 ⟨ss, k, ds⟩ ⟨id, day, kind, item, eq, ea, er⟩ _ O1'.out (B1.out.size) HA.out HE.out DS.out).mono ?_; rintro r v2 ⟨A, n, c, kk, D, m, d, rfl, h2, hb2, hk2⟩)
          go_wp2_with fail
          have Qb := Lib.hid (hk2 _ _ _ (.inr ⟨rfl, by simp⟩) Qa.out); have Eb := Lib.hid (hk2 _ _ _ (.inl rfl) Ea.out); have Zb := Lib.hid (hk2 _ _ _ (.inr ⟨rfl, by simp⟩) Za.out)
          refine hK.out _ _ (SOF.out v2 Qb.out Eb.out) (fun hHeld => ?_)
          clear hK K
          (try simp only [Act.put, List.setIfInBounds_toArray, List.set_cons_zero, List.set_cons_succ])
          refine wpAnyH_take (i := 4) (oi := ?_) (v := ?_) (by simp only [List.getElem?_toArray, List.getElem?_cons_succ, List.getElem?_cons_zero]; rfl) (by kernel_rfl) (by kernel_rfl) (by kernel_rfl) ?_ (Or.inl ⟨by rfl, ?_⟩) hHeld ?_
          rotate_left 1
          focus exact CutPost.panic fun _ _ _ h => h
          focus (intro w hSw; (try dsimp only at hSw); go_simp; try with_reducible rfl)
          (try simp only [Act.put, List.setIfInBounds_toArray, List.set_cons_zero, List.set_cons_succ])
          refine wpAnyH_take (i := 5) (oi := ?_) (v := ?_) (by simp only [List.getElem?_toArray, List.getElem?_cons_succ, List.getElem?_cons_zero]; rfl) (by kernel_rfl) (by kernel_rfl) (by kernel_rfl) ?_ (Or.inl ⟨by rfl, ?_⟩) hHeld ?_
          rotate_left 1
          focus exact CutPost.panic fun _ _ _ h => h
          focus (intro w hSw; (try dsimp only at hSw); go_simp; try with_reducible rfl)
          (try simp only [Act.put, List.setIfInBounds_toArray, List.set_cons_zero, List.set_cons_succ])
          refine wpAnyH_take (i := 6) (oi := ?_) (v := ?_) (by simp only [List.getElem?_toArray, List.getElem?_cons_succ, List.getElem?_cons_zero]; rfl) (by kernel_rfl) (by kernel_rfl) (by kernel_rfl) ?_ (Or.inl ⟨by rfl, ?_⟩) hHeld ?_
          rotate_left 1
          focus exact CutPost.panic fun _ _ _ h => h
          focus (intro w hSw; (try dsimp only at hSw); go_simp; try with_reducible rfl)
          (try simp only [Act.put, List.setIfInBounds_toArray, List.set_cons_zero, List.set_cons_succ])
          refine wpAnyH_ready (rs := [7]) (by kernel_rfl) (by simp) ?_
          refine AllReadyH.cons (o := ?_) (by simp only [List.getElem?_toArray, List.getElem?_cons_succ, List.getElem?_cons_zero]; rfl) (fun K hK => ?_) AllReadyH.nil
          go_simp
          refine hK.out _ _ (SOF.out _ (blk_alloc Qb.out _) (blk_alloc Eb.out _)) (fun hHeld => ?_)
          clear hK K
          (try simp only [Act.put, List.setIfInBounds_toArray, List.set_cons_zero, List.set_cons_succ])
          obtain ⟨r9, hr9⟩ : ∃ r9, r9 = v2.heap.size := ⟨_, rfl⟩
          obtain ⟨U9, hU9⟩ : ∃ U9, U9 = v2.alloc (Obj.cells #[.slice none 0 0, .int .i64 0, .slice none 0 0] 31) := ⟨_, rfl⟩
          have R9 := Lib.hid (show U9.heap[r9]? = some (Obj.cells #[.slice none 0 0, .int .i64 0, .slice none 0 0] 31 (0, 0)) by rw [hU9, hr9]; exact blk_new1 _ _)
          have Q9 := Lib.hid (show U9.heap[w.heap.size]? = some (Obj.cells #[.slice sA sn sc, .int .i64 k, .slice dA dn dc] 31 (0, 0)) by rw [hU9]; exact blk_alloc Qb.out _); have E9 := Lib.hid (show U9.heap[w.heap.size + 1]? = some (Obj.cells #[.int .i64 id, .int .i64 day, .int .i64 kind, .string item, .int .i64 eq, .int .i64 ea, .int .i64 er] 44 (0, 0)) by rw [hU9]; exact blk_alloc Eb.out _); have Z9 := Lib.hid (show U9.heap[w.heap.size + 1 + 1]? = some (Obj.cells #[.slice none 0 0, .int .i64 0, .slice none 0 0] 31 (0, 0)) by rw [hU9]; exact blk_alloc Zb.out _)
          have rl9 : w.heap.size + 1 + 1 < r9 := by have := B1.out.size; have := hb2.size; omega
          have B9 := Lib.hid (show Below w.heap.size w U9 by rw [hU9]; exact ((B3.out.trans ((B1.out.trans hb2).mono NW))).alloc (by have := B1.out.size; have := hb2.size; omega) _)
          have H9 := Lib.hid (show (bookB ⟨ss, k, ds⟩ ⟨id, day, kind, item, eq, ea, er⟩).1 = 0 → kk = (bookB ⟨ss, k, ds⟩ ⟨id, day, kind, item, eq, ea, er⟩).2.k ∧ BooksO U9 w.heap.size U9.heap.size (.slice A n c) n (bookB ⟨ss, k, ds⟩ ⟨id, day, kind, item, eq, ea, er⟩).2.ss (.slice D m d) m (bookB ⟨ss, k, ds⟩ ⟨id, day, kind, item, eq, ea, er⟩).2.ds from fun h => ⟨(h2 h).1, by rw [hU9]; exact ((h2 h).2.below (below_box _ _)).top.mono NW (Nat.le_refl _)⟩)
          rw [← hU9] at hHeld
          rw [← hr9, ← hU9]
          clear hr9 hU9 h2 hb2 hk2 Qb Eb Zb O1' Qa Ea Za B1
        rotate_left 1
        focus
          go_simp
          refine hK.out _ _ (SOF.out _ (blk_alloc Qa.out _) (blk_alloc Ea.out _)) (fun hHeld => ?_)
          clear hK K
          (try simp only [Act.put, List.setIfInBounds_toArray, List.set_cons_zero, List.set_cons_succ])
          refine wpAnyH_ready (rs := [3]) (by kernel_rfl) (by simp) ?_
          refine AllReadyH.cons (o := ?_) (by simp only [List.getElem?_toArray, List.getElem?_cons_succ, List.getElem?_cons_zero]; rfl) (fun K hK => ?_) AllReadyH.nil
          go_simp
          (go_at_call 57; refine (specBookBk (u.heap.size) _ A1 sn c1 D1 dn d1 ⟨ss, k, ds⟩ ⟨id, day, kind, item, eq, ea, er⟩ _ (O1'.out.below (below_box v1 _)) (Nat.le_trans B1.out.size (below_box v1 _).size) HA.out HE.out DS.out).mono ?_; rintro r v2 ⟨A, n, c, kk, D, m, d, rfl, h2, hb2, hk2⟩)
          go_wp2_with fail
          obtain ⟨r9, hr9⟩ : ∃ r9, r9 = v1.heap.size := ⟨_, rfl⟩
          obtain ⟨U9, hU9⟩ : ∃ U9, U9 = v2 := ⟨_, rfl⟩
          have R9 := Lib.hid (show U9.heap[r9]? = some (Obj.cells #[.slice none 0 0, .int .i64 0, .slice none 0 0] 31 (0, 0)) by rw [hU9, hr9]; exact hk2 _ _ _ (.inr ⟨rfl, by simp⟩) (blk_new1 _ _))
          have Q9 := Lib.hid (show U9.heap[w.heap.size]? = some (Obj.cells #[.slice sA sn sc, .int .i64 k, .slice dA dn dc] 31 (0, 0)) by rw [hU9]; exact hk2 _ _ _ (.inr ⟨rfl, by simp⟩) (blk_alloc Qa.out _)); have E9 := Lib.hid (show U9.heap[w.heap.size + 1]? = some (Obj.cells #[.int .i64 id, .int .i64 day, .int .i64 kind, .string item, .int .i64 eq, .int .i64 ea, .int .i64 er] 44 (0, 0)) by rw [hU9]; exact hk2 _ _ _ (.inl rfl) (blk_alloc Ea.out _)); have Z9 := Lib.hid (show U9.heap[w.heap.size + 1 + 1]? = some (Obj.cells #[.slice none 0 0, .int .i64 0, .slice none 0 0] 31 (0, 0)) by rw [hU9]; exact hk2 _ _ _ (.inr ⟨rfl, by simp⟩) (blk_alloc Za.out _))
          have rl9 : w.heap.size + 1 + 1 < r9 := by have := B1.out.size; omega
          have B9 := Lib.hid (show Below w.heap.size w U9 by rw [hU9]; exact B3.out.trans (((B1.out.alloc B1.out.size _).trans hb2).mono NW))
          have H9 := Lib.hid (show (bookB ⟨ss, k, ds⟩ ⟨id, day, kind, item, eq, ea, er⟩).1 = 0 → kk = (bookB ⟨ss, k, ds⟩ ⟨id, day, kind, item, eq, ea, er⟩).2.k ∧ BooksO U9 w.heap.size U9.heap.size (.slice A n c) n (bookB ⟨ss, k, ds⟩ ⟨id, day, kind, item, eq, ea, er⟩).2.ss (.slice D m d) m (bookB ⟨ss, k, ds⟩ ⟨id, day, kind, item, eq, ea, er⟩).2.ds from fun h => ⟨(h2 h).1, by rw [hU9]; exact (h2 h).2.top.mono NW (Nat.le_refl _)⟩)
          refine hK.out _ _ (SOF.out _ (hU9 ▸ Q9.out) (hU9 ▸ E9.out)) (fun hHeld => ?_)
          clear hK K
          (try simp only [Act.put, List.setIfInBounds_toArray, List.set_cons_zero, List.set_cons_succ])
          refine wpAnyH_take (i := 4) (oi := ?_) (v := ?_) (by simp only [List.getElem?_toArray, List.getElem?_cons_succ, List.getElem?_cons_zero]; rfl) (by kernel_rfl) (by kernel_rfl) (by kernel_rfl) ?_ (Or.inl ⟨by rfl, ?_⟩) hHeld ?_
          rotate_left 1
          focus exact CutPost.panic fun _ _ _ h => h
          focus (intro w hSw; (try dsimp only at hSw); go_simp; try with_reducible rfl)
          (try simp only [Act.put, List.setIfInBounds_toArray, List.set_cons_zero, List.set_cons_succ])
          refine wpAnyH_take (i := 5) (oi := ?_) (v := ?_) (by simp only [List.getElem?_toArray, List.getElem?_cons_succ, List.getElem?_cons_zero]; rfl) (by kernel_rfl) (by kernel_rfl) (by kernel_rfl) ?_ (Or.inl ⟨by rfl, ?_⟩) hHeld ?_
          rotate_left 1
          focus exact CutPost.panic fun _ _ _ h => h
          focus (intro w hSw; (try dsimp only at hSw); go_simp; try with_reducible rfl)
          (try simp only [Act.put, List.setIfInBounds_toArray, List.set_cons_zero, List.set_cons_succ])
          refine wpAnyH_take (i := 6) (oi := ?_) (v := ?_) (by simp only [List.getElem?_toArray, List.getElem?_cons_succ, List.getElem?_cons_zero]; rfl) (by kernel_rfl) (by kernel_rfl) (by kernel_rfl) ?_ (Or.inl ⟨by rfl, ?_⟩) hHeld ?_
          rotate_left 1
          focus exact CutPost.panic fun _ _ _ h => h
          focus (intro w hSw; (try dsimp only at hSw); go_simp; try with_reducible rfl)
          (try simp only [Act.put, List.setIfInBounds_toArray, List.set_cons_zero, List.set_cons_succ])
          rw [← hU9] at hHeld
          rw [← hr9, ← hU9]
          clear hr9 hU9 h2 hb2 hk2 O1' Qa Ea Za B1
      rotate_left 2
      focus
        go_simp
        refine hK.out _ _ (SOF.out _ (blk_alloc (show u.drew.heap[w.heap.size]? = _ from Q3.out) _) (blk_alloc (show u.drew.heap[w.heap.size + 1]? = _ from E3.out) _)) (fun hHeld => ?_)
        clear hK K
        (try simp only [Act.put, List.setIfInBounds_toArray, List.set_cons_zero, List.set_cons_succ])
        refine wpAnyH_ready (rs := [1]) (by kernel_rfl) (by simp) ?_
        refine AllReadyH.cons (o := ?_) (by simp only [List.getElem?_toArray, List.getElem?_cons_succ, List.getElem?_cons_zero]; rfl) (fun K hK => ?_) AllReadyH.nil
        go_simp
        (go_at_call 56; refine (specCopyBk _ _ _ k _ _ _ ss ds _ (hr.below (B3.out.trans (((Below.refl u.heap.size u).drew.alloc (Nat.le_refl _) _).mono NW))) (hd.below (B3.out.trans (((Below.refl u.heap.size u).drew.alloc (Nat.le_refl _) _).mono NW))) hn hm S2.out D2.out).mono ?_; rintro r v1 ⟨A1, c1, D1, d1, rfl, O1, h1⟩)
        go_wp2_with fail
        have zs : u.heap.size + 1 ≤ v1.heap.size := Nat.le_trans (by simp) h1.size
        have B1 := Lib.hid (show Below u.heap.size u v1 from ((Below.refl u.heap.size u).drew.alloc (Nat.le_refl _) (Obj.cells #[.slice none 0 0, .int .i64 0, .slice none 0 0] 31)).trans (h1.mono (by simp)))
        have O1' := Lib.hid (show BooksO v1 (u.heap.size + 1) v1.heap.size _ _ _ _ _ _ by simpa using O1)
        have Qa := Lib.hid (blk_keep B1.out Q3.out); have Ea := Lib.hid (blk_keep B1.out E3.out); have Za := Lib.hid (blk_keep B1.out Z3.out)
        have Ra := Lib.hid ((h1.block u.heap.size (by simp)).trans (blk_new1 u.drew (Obj.cells #[.slice none 0 0, .int .i64 0, .slice none 0 0] 31)))
        clear h1 O1
        refine hK.out _ _ (SOF.out v1 Qa.out Ea.out) (fun hHeld => ?_)
        clear hK K
        (try simp only [Act.put, List.setIfInBounds_toArray, List.set_cons_zero, List.set_cons_succ])
        refine wpAnyH_ready (rs := [3]) (by kernel_rfl) (by simp) ?_
        refine AllReadyH.cons (o := ?_) (by simp only [List.getElem?_toArray, List.getElem?_cons_succ, List.getElem?_cons_zero]; rfl) (fun K hK => ?_) AllReadyH.nil
        go_simp
        (go_at_call 57; refine (specBookBk (u.heap.size + 1) _ A1 sn c1 D1 dn d1 ⟨ss, k, ds⟩ ⟨id, day, kind, item, eq, ea, er⟩ _ O1'.out (zs) HA.out HE.out DS.out).mono ?_; rintro r v2 ⟨A, n, c, kk, D, m, d, rfl, h2, hb2, hk2⟩)
        go_wp2_with fail
        obtain ⟨r9, hr9⟩ : ∃ r9, r9 = u.heap.size := ⟨_, rfl⟩
        obtain ⟨U9, hU9⟩ : ∃ U9, U9 = v2 := ⟨_, rfl⟩
        have R9 := Lib.hid (show U9.heap[r9]? = some (Obj.cells #[.slice none 0 0, .int .i64 0, .slice none 0 0] 31 (0, 0)) by rw [hU9, hr9]; exact hk2 _ _ _ (.inr ⟨rfl, by simp⟩) Ra.out)
        have Q9 := Lib.hid (show U9.heap[w.heap.size]? = some (Obj.cells #[.slice sA sn sc, .int .i64 k, .slice dA dn dc] 31 (0, 0)) by rw [hU9]; exact hk2 _ _ _ (.inr ⟨rfl, by simp⟩) Qa.out); have E9 := Lib.hid (show U9.heap[w.heap.size + 1]? = some (Obj.cells #[.int .i64 id, .int .i64 day, .int .i64 kind, .string item, .int .i64 eq, .int .i64 ea, .int .i64 er] 44 (0, 0)) by rw [hU9]; exact hk2 _ _ _ (.inl rfl) Ea.out); have Z9 := Lib.hid (show U9.heap[w.heap.size + 1 + 1]? = some (Obj.cells #[.slice none 0 0, .int .i64 0, .slice none 0 0] 31 (0, 0)) by rw [hU9]; exact hk2 _ _ _ (.inr ⟨rfl, by simp⟩) Za.out)
        have rl9 : w.heap.size + 1 + 1 < r9 := by omega
        have B9 := Lib.hid (show Below w.heap.size w U9 by rw [hU9]; exact B3.out.trans ((B1.out.mono NW).trans (hb2.mono (by omega))))
        have H9 := Lib.hid (show (bookB ⟨ss, k, ds⟩ ⟨id, day, kind, item, eq, ea, er⟩).1 = 0 → kk = (bookB ⟨ss, k, ds⟩ ⟨id, day, kind, item, eq, ea, er⟩).2.k ∧ BooksO U9 w.heap.size U9.heap.size (.slice A n c) n (bookB ⟨ss, k, ds⟩ ⟨id, day, kind, item, eq, ea, er⟩).2.ss (.slice D m d) m (bookB ⟨ss, k, ds⟩ ⟨id, day, kind, item, eq, ea, er⟩).2.ds from fun h => ⟨(h2 h).1, by rw [hU9]; exact (h2 h).2.top.mono (by omega) (Nat.le_refl _)⟩)
        refine hK.out _ _ (SOF.out _ (hU9 ▸ Q9.out) (hU9 ▸ E9.out)) (fun hHeld => ?_)
        clear hK K
        (try simp only [Act.put, List.setIfInBounds_toArray, List.set_cons_zero, List.set_cons_succ])
        refine wpAnyH_take (i := 4) (oi := ?_) (v := ?_) (by simp only [List.getElem?_toArray, List.getElem?_cons_succ, List.getElem?_cons_zero]; rfl) (by kernel_rfl) (by kernel_rfl) (by kernel_rfl) ?_ (Or.inl ⟨by rfl, ?_⟩) hHeld ?_
        rotate_left 1
        focus exact CutPost.panic fun _ _ _ h => h
        focus (intro w hSw; (try dsimp only at hSw); go_simp; try with_reducible rfl)
        (try simp only [Act.put, List.setIfInBounds_toArray, List.set_cons_zero, List.set_cons_succ])
        refine wpAnyH_take (i := 5) (oi := ?_) (v := ?_) (by simp only [List.getElem?_toArray, List.getElem?_cons_succ, List.getElem?_cons_zero]; rfl) (by kernel_rfl) (by kernel_rfl) (by kernel_rfl) ?_ (Or.inl ⟨by rfl, ?_⟩) hHeld ?_
        rotate_left 1
        focus exact CutPost.panic fun _ _ _ h => h
        focus (intro w hSw; (try dsimp only at hSw); go_simp; try with_reducible rfl)
        (try simp only [Act.put, List.setIfInBounds_toArray, List.set_cons_zero, List.set_cons_succ])
        refine wpAnyH_take (i := 6) (oi := ?_) (v := ?_) (by simp only [List.getElem?_toArray, List.getElem?_cons_succ, List.getElem?_cons_zero]; rfl) (by kernel_rfl) (by kernel_rfl) (by kernel_rfl) ?_ (Or.inl ⟨by rfl, ?_⟩) hHeld ?_
        rotate_left 1
        focus exact CutPost.panic fun _ _ _ h => h
        focus (intro w hSw; (try dsimp only at hSw); go_simp; try with_reducible rfl)
        (try simp only [Act.put, List.setIfInBounds_toArray, List.set_cons_zero, List.set_cons_succ])
        rw [← hU9] at hHeld
        rw [← hr9, ← hU9]
        clear hr9 hU9 h2 hb2 hk2 O1' Qa Ea Za B1 Ra zs
      all_goals
        clear Q3 Z3 E3 B3 NL NW ZB bA
        have r0 := blk_at R9.out (j := 0) rfl; have r1 := blk_at R9.out (j := 1) rfl; have r2 := blk_at R9.out (j := 2) rfl; have rf := blk_free R9.out
        refine wpAnyH_ready (rs := [8]) (by kernel_rfl) (by simp) ?_
        refine AllReadyH.cons (o := ?_) (by simp only [List.getElem?_toArray, List.getElem?_cons_succ, List.getElem?_cons_zero]; rfl) (fun K hK => ?_) AllReadyH.nil
        go_simp
        refine hK.out _ _ (SOF.out _ ((blk_set3_ne (by omega) _ _ _).trans Q9.out) ((blk_set3_ne (by omega) _ _ _).trans E9.out)) (fun hHeld => ?_)
        clear hK K
        (try simp only [Act.put, List.setIfInBounds_toArray, List.set_cons_zero, List.set_cons_succ])
        refine wpAnyH_done (by kernel_rfl) ?_ _
        refine CutPost.step (o := ?_) (by simp only [List.getElem?_toArray, List.getElem?_cons_succ, List.getElem?_cons_zero]; rfl) (fun K hK => ?_)
        go_simp
        refine hK _ _ ?_
        clear hK K
        (try simp only [Act.put, List.setIfInBounds_toArray, List.set_cons_zero, List.set_cons_succ])
        clear r0 r1 r2 rf
        obtain ⟨V, hV⟩ : ∃ V, V = (((U9.setCell ⟨r9, 0, none⟩ (.slice A n c)).setCell ⟨r9, 1, none⟩ (.int .i64 kk)).setCell ⟨r9, 2, none⟩ (.slice D m d)) := ⟨_, rfl⟩
        have RV := Lib.hid (show V.heap[r9]? = some (Obj.cells #[.slice A n c, .int .i64 kk, .slice D m d] 31 (0, 0)) by rw [hV]; exact blk_set3 R9.out _ _ _)
        have QV := Lib.hid (show V.heap[w.heap.size]? = some (Obj.cells #[.slice sA sn sc, .int .i64 k, .slice dA dn dc] 31 (0, 0)) by rw [hV]; exact (blk_set3_ne (by omega) _ _ _).trans Q9.out)
        have ZV := Lib.hid (show V.heap[w.heap.size + 1 + 1]? = some (Obj.cells #[.slice none 0 0, .int .i64 0, .slice none 0 0] 31 (0, 0)) by rw [hV]; exact (blk_set3_ne (by omega) _ _ _).trans Z9.out)
        have BV := Lib.hid (show Below w.heap.size w V by rw [hV]; exact below_out3 B9.out (by omega) _ _ _)
        have HV := Lib.hid (show (bookB ⟨ss, k, ds⟩ ⟨id, day, kind, item, eq, ea, er⟩).1 = 0 → kk = (bookB ⟨ss, k, ds⟩ ⟨id, day, kind, item, eq, ea, er⟩).2.k ∧ BooksO V w.heap.size V.heap.size (.slice A n c) n (bookB ⟨ss, k, ds⟩ ⟨id, day, kind, item, eq, ea, er⟩).2.ss (.slice D m d) m (bookB ⟨ss, k, ds⟩ ⟨id, day, kind, item, eq, ea, er⟩).2.ds from fun h => ⟨(H9.out h).1, by rw [hV]; exact (BooksO.out3 (H9.out h).2 R9.out _ _ _).top⟩)
        rw [← hV]
        clear hV R9 Q9 E9 Z9 B9 H9
        have z0 := blk_at ZV.out (j := 0) rfl; have z1 := blk_at ZV.out (j := 1) rfl; have z2 := blk_at ZV.out (j := 2) rfl; have zf := blk_free ZV.out
        obtain ⟨cd, hcd⟩ : ∃ cd, cd = (bookB ⟨ss, k, ds⟩ ⟨id, day, kind, item, eq, ea, er⟩).1 := ⟨_, rfl⟩
        rw [← hcd] at HV ⊢
        by_cases hc : cd = 0
        · have R := Lib.hid (show bookEv ⟨ss, k, ds⟩ ⟨id, day, kind, item, eq, ea, er⟩ = (0, (bookB ⟨ss, k, ds⟩ ⟨id, day, kind, item, eq, ea, er⟩).2) by
            have h0 : (bookB ⟨ss, k, ds⟩ ⟨id, day, kind, item, eq, ea, er⟩).1 = 0 := by rw [← hcd]; exact hc
            simp only [bookEv, HA.out, HE.out, Bool.and_self, if_true, h0]; exact Prod.ext h0 rfl)
          obtain ⟨hk9, O9⟩ := HV.out hc
          have HK := Lib.hid hk9; have O9' := Lib.hid O9
          clear HV hcd hk9 O9
          subst hc
          have v0 := blk_at RV.out (j := 0) rfl; have v1 := blk_at RV.out (j := 1) rfl; have v2 := blk_at RV.out (j := 2) rfl
          go_wp2_with fail
          rw [R.out]
          refine bodyPost_ret (v := .tuple #[.agg #[.slice A n c, .int .i64 kk, .slice D m d], .int .i64 0]) (by simp [results, Try.results24, go_sem, z0, z1, z2]) rfl ⟨A, n, c, D, m, d, by rw [HK.out], ?_, below_out3 BV.out (by omega) _ _ _⟩
          exact (BooksO.out3 O9'.out ZV.out _ _ _).top
        · have R := Lib.hid (show bookEv ⟨ss, k, ds⟩ ⟨id, day, kind, item, eq, ea, er⟩ = (cd, ⟨ss, k, ds⟩) by
            have h0 : ¬ (bookB ⟨ss, k, ds⟩ ⟨id, day, kind, item, eq, ea, er⟩).1 = 0 := by rw [← hcd]; exact hc
            simp only [bookEv, HA.out, HE.out, Bool.and_self, if_true, if_neg h0, hcd])
          clear HV hcd z0 z1 z2 zf
          have x0 := blk_at QV.out (j := 0) rfl; have x1 := blk_at QV.out (j := 1) rfl; have x2 := blk_at QV.out (j := 2) rfl
          go_wp2_with fail
          refine (specCopyBk _ _ _ k _ _ _ ss ds V (hr.below BV.out) (hd.below BV.out) hn hm S2.out D2.out).mono ?_; rintro r w5 ⟨A5, c5, D5, d5, rfl, O5, hb5⟩
          have Z5 := Lib.hid (blk_keep hb5 ZV.out)
          have B5 := Lib.hid (below_app BV.out hb5 BV.out.size)
          have O5' := Lib.hid O5
          have s5 := BV.out.size
          clear x0 x1 x2 O5 hb5
          have z0 := blk_at Z5.out (j := 0) rfl; have z1 := blk_at Z5.out (j := 1) rfl; have z2 := blk_at Z5.out (j := 2) rfl; have zf := blk_free Z5.out
          go_wp2_with fail
          rw [R.out]
          refine bodyPost_ret (v := .tuple #[.agg #[.slice A5 sn c5, .int .i64 k, .slice D5 dn d5], .int .i64 cd]) (by simp [results, Try.results24, go_sem, z0, z1, z2]) rfl ⟨A5, sn, c5, D5, dn, d5, rfl, ?_, below_out3 B5.out (by omega) _ _ _⟩
          exact (BooksO.out3 O5'.out Z5.out _ _ _).top.mono s5 (Nat.le_refl _)
end Go.Proofs.Ytlgodbjbllpipaa
