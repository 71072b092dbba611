/- The walk of late. No condition. -/
import Derived.Test.YtlgodbjbllpipaaBkIss
import Derived.Test.YtlgodbjbllpipaaLayH
namespace Go.Proofs.Ytlgodbjbllpipaa
open Go.ChangeShapes Go.WideShapes Go.ChangeAt Go.RowKit

theorem late_none {ss : List Shf} {item : ByteArray} (h : shelfAt ss item = -1) (r a : Int) : lateCode ss item r a = 4 := by simp [lateCode, lateIx, h]
theorem late_at {ss : List Shf} {item : ByteArray} {p : Nat} {x : Shf} (h : shelfAt ss item = p) (hx : ss[p]? = some x) (r : Int) : lateIx ss item r = lastTo x.ids r x.ids.length := by
  rw [lateIx, if_neg (by omega), shGet_at h hx]
set_option maxRecDepth 100000 in
set_option maxHeartbeats 8000000 in
theorem implLateBk (lo q : Nat) (ss : List Shf) (k : Int) (ds : List Doc) (e : Ev) (w : World) (h : BkO w lo q ss k ds) (hlo : lo ≤ w.heap.size) (hss : shsOk ss = true) :
    Calls Try.prog 88 #[.pointer (some ⟨q, 0, none⟩), evAgg e] w fun r w' => ∃ c, r = .returned (.tuple #[.int .i64 c, .int .i64 (lateCode ss e.item e.r e.a)]) ∧ (lateCode ss e.item e.r e.a = 0 → c = lateCost ss e.item e.r e.a ∧ BkO w' lo q (lateSs ss e.item e.r e.a) k ds) ∧ Below lo w w' ∧ Keeps (some q) w w' := by
  obtain ⟨sA, sn, sc, dA, dn, dc, hq, hlq, hbk⟩ := h
  have hl := Lib.hid hbk.shelves.len
  have n12 : sn ≤ 12 := by rw [← hl.out]; exact shsOk_len hss
  have SG := Lib.hid (shGood_lays hss e.item)
  have qs : q < w.heap.size := (Array.getElem?_eq_some_iff.1 hq).1
  have b0 := Lib.hid (below_box w (Obj.cells #[.int .i64 e.id, .int .i64 e.day, .int .i64 e.kind, .string e.item, .int .i64 e.q, .int .i64 e.a, .int .i64 e.r] 44))
  have E := Lib.hid (blk_new1 w (Obj.cells #[.int .i64 e.id, .int .i64 e.day, .int .i64 e.kind, .string e.item, .int .i64 e.q, .int .i64 e.a, .int .i64 e.r] 44))
  have Q := Lib.hid (blk_keep b0.out hq)
  have HB := Lib.hid (hbk.below b0.out)
  clear hq hbk
  go_enter Try.func88, Try.ntmps88
  go_wp2_with fail
  have WS : (w.alloc (Obj.cells #[.int .i64 e.id, .int .i64 e.day, .int .i64 e.kind, .string e.item, .int .i64 e.q, .int .i64 e.a, .int .i64 e.r] 44)).heap.size = w.heap.size + 1 := by simp
  generalize w.alloc (Obj.cells #[.int .i64 e.id, .int .i64 e.day, .int .i64 e.kind, .string e.item, .int .i64 e.q, .int .i64 e.a, .int .i64 e.r] 44) = W at *
  replace WS := Lib.hid WS
  have q0 := blk_at Q.out (j := 0) rfl; have q1 := blk_at Q.out (j := 1) rfl; have q2 := blk_at Q.out (j := 2) rfl
  have e3 := (evCells E.out).2.2.2.1
  go_region_held3 (fun w' => w'.cell? ⟨q, 0, none⟩ = some (.slice sA sn sc) ∧ w'.cell? ⟨q, 1, none⟩ = some (.int .i64 k) ∧ w'.cell? ⟨q, 2, none⟩ = some (.slice dA dn dc) ∧ w'.cell? ⟨w.heap.size, 3, none⟩ = some (.string e.item))
    (first
      | go_keep
      | (go_split_ands; exact ⟨cell_keep hb1 q0, cell_keep hb1 q1, cell_keep hb1 q2, cell_keep hb1 e3⟩))
    (first | (go_at_call 53; refine (implShelfOf _ _ _ _ _ _ _ ss _ W.drew (HB.out.shelves.below (Below.refl _ _).drew) (by omega)).mono ?_; rintro e' V ⟨rfl, hb1⟩))
  have B1 := Lib.hid (show Below W.heap.size W V from (Below.refl _ _).drew.trans hb1)
  have QV := Lib.hid (blk_keep B1.out Q.out); have EV := Lib.hid (blk_keep B1.out E.out)
  have BV := Lib.hid (HB.out.below B1.out).top
  have bV := Lib.hid ((b0.out.mono hlo).trans (B1.out.mono (by rw [WS.out]; omega)))
  have kV := Lib.hid ((Keeps.below (q := some q) b0.out).trans (Keeps.below B1.out))
  clear q0 q1 q2 e3 hb1 B1 E Q HB WS b0
  have zV : lo ≤ V.heap.size := Nat.le_trans hlo bV.out.size
  rcases shelfAt_cases ss e.item with ⟨h0, _⟩ | ⟨p, x, h0, hx, he, _⟩
  · have R := Lib.hid (late_none h0 e.r e.a)
    rw [h0]
    clear h0
    go_wp2_with fail
    go_ret2
    rw [R.out]
    exact ⟨_, rfl, (fun h => by cases h), bV.out, kV.out⟩
  · have hpm : p < sn := by rw [← hl.out]; exact (List.getElem?_eq_some_iff.1 hx).1
    have SP := shGet_at h0 hx
    have IX := Lib.hid (late_at h0 hx e.r)
    have R := Lib.hid (show lateCode ss e.item e.r e.a = if lastTo x.ids e.r x.ids.length < 0 then 4 else if lateOk x.lays (lastTo x.ids e.r x.ids.length) e.a then 0 else 2 by rw [lateCode, IX.out, SP])
    have RC := Lib.hid (show lateCost ss e.item e.r e.a = lateGone x.lays (lastTo x.ids e.r x.ids.length) e.a by rw [lateCost, IX.out, SP])
    have RSS := Lib.hid (show lateSs ss e.item e.r e.a = ss.set p ⟨x.item, x.ids, lateOut x.lays (lastTo x.ids e.r x.ids.length) e.a⟩ by rw [lateSs, IX.out, SP, h0, ← he]; rfl)
    have HX := Lib.hid hx
    obtain ⟨sg1, sg2⟩ := SG.out
    rw [SP] at sg1 sg2
    rw [h0]
    clear h0 hx he SP SG IX
    have q0 := blk_at QV.out (j := 0) rfl
    obtain ⟨us, hus, SO⟩ := BV.out
    have US := Lib.hid hus; clear hus
    obtain ⟨g, rfl, hg1, hg2, ⟨cs, hcs⟩, hgf, s, iA, iC, lA, lC, hs, c0, c1, c2, oi, rl, RELAY, _⟩ := SO.shelf hpm zV
    rw [HX.out] at hs
    obtain rfl := Option.some.inj hs
    have RL := Lib.hid RELAY
    clear hs RELAY
    have i0 : ¬ (p : Int) < 0 := by omega
    have i1 : (0 : Int) ≤ p := by omega
    have i2 : (p : Int) < sn := by omega
    have ri := RS.of_own oi
    obtain ⟨n, hn⟩ : ∃ n, n = x.ids.length := ⟨_, rfl⟩
    rw [← hn] at c1 ri R RC RSS sg2
    have HN := Lib.hid hn
    clear hn
    go_wp2_with fail
    go_loopw [8, 33] (fun t i wr => ∃ j : Nat, j ≤ n ∧ i = .int .i64 j ∧ t = .int .i64 (lastTo x.ids e.r j) ∧ Below V.heap.size V wr) (fun _ i _ => n - (intOf i).toNat)
    case atStart => exact ⟨0, Nat.zero_le _, rfl, rfl, Below.refl _ _⟩
    case round =>
      obtain ⟨j, hj, rfl, rfl, hb⟩ := hrel
      by_cases hlt : j < n
      · obtain ⟨g2, off2, hA, y, hy, cy⟩ := (ri.below hb).intAt hlt
        subst hA
        have HY := Lib.hid hy; clear hy
        have e6 := (evCells (blk_keep hb EV.out)).2.2.2.2.2.2
        by_cases hr : y = e.r
        · have HH := Lib.hid (lastTo_hit HY.out hr)
          subst hr
          go_wp2_with fail
          go_roundw
          case rel => exact ⟨j + 1, by omega, by go_num, by rw [HH.out], hb⟩
          case measure => simp [intOf]; omega
        · have HH := Lib.hid (lastTo_miss HY.out hr)
          go_wp2_with fail
          go_roundw
          case rel => exact ⟨j + 1, by omega, by go_num, by rw [HH.out], hb⟩
          case measure => simp [intOf]; omega
      · obtain rfl : n = j := by omega
        have bd := lastTo_bd x.ids e.r n
        obtain ⟨ix, hix⟩ : ∃ ix, ix = lastTo x.ids e.r n := ⟨_, rfl⟩
        rw [← hix] at R RC RSS bd ⊢
        clear hix
        obtain ⟨bd1, bd2⟩ := bd
        by_cases hneg : ix < 0
        · rw [if_pos hneg] at R
          go_wp2_with fail
          go_ret2
          rw [R.out]
          exact ⟨_, rfl, (fun h => by cases h), bV.out.trans (hb.mono zV), kV.out.trans (Keeps.below hb)⟩
        · rw [if_neg hneg] at R
          have Qr := Lib.hid (blk_keep hb QV.out)
          have c2 := cell_keep hb c2
          have e5 := (evCells (blk_keep hb EV.out)).2.2.2.2.2.1
          have rl := rl.below hb
          have zr := hb.size
          cases ha : lateOk x.lays ix e.a
          all_goals
            have HA := Lib.hid ha; clear ha
            rw [HA.out] at R
            go_wp2_with fail
            go_region_held3 (fun w' => w'.cell? ⟨g, p * 3 + 2, none⟩ = some (.slice lA x.lays.length lC) ∧ w'.cell? ⟨w.heap.size, 5, none⟩ = some (.int .i64 e.a))
              (first
                | go_keep
                | (go_split_ands; exact ⟨cell_keep hb2 c2, cell_keep hb2 e5⟩))
              (first | (go_at_call 117; refine (implAddLate _ _ _ x.lays _ _ wr.drew (rl.drewN 1) (by omega)).mono ?_; rw [HA.out]; rintro e' w2 ⟨A2, c2', rfl, o2, hb2⟩))
            have B2 := Lib.hid (show Below V.heap.size V w2 from hb.trans ((Below.refl _ _).drew.trans (hb2.mono zr)))
          · go_wp2_with fail
            go_ret2
            rw [R.out]
            exact ⟨_, rfl, (fun h => by cases h), bV.out.trans (B2.out.mono zV), kV.out.trans (Keeps.below B2.out)⟩
          · have Q2 := Lib.hid (blk_keep B2.out QV.out)
            have hcs2 := Lib.hid (blk_keep B2.out hcs)
            obtain ⟨ln, hln⟩ : ∃ ln, ln = (lateOut x.lays ix e.a).length := ⟨_, rfl⟩
            rw [← hln] at o2 ⊢
            have SO2 := Lib.hid (RL.out w2 A2 ln c2' (lateOut x.lays ix e.a) B2.out (own_base o2 zr)).top
            have C2 := cell_keep hb2 c2; have f2 := blk_free hcs2.out
            clear c0 c1 c2 e5 q0 o2 hb2 oi rl hln
            go_wp2_with fail
            go_ret2
            have K2 := Lib.hid (Keeps.set (q := none) (u := .slice A2 ln c2') (p := ⟨g, p * 3 + 2, none⟩) hcs2.out (by decide) (by decide))
            rw [R.out]
            refine ⟨_, rfl, fun _ => ⟨RC.out.symm, _, sn, sc, dA, dn, dc, K2.out _ _ _ (.inr ⟨rfl, by simp⟩) Q2.out, hlq, us, US.out, ?_⟩, (bV.out.trans (B2.out.mono zV)).setCell (p := ⟨g, p * 3 + 2, none⟩) hg1 _, (kV.out.trans (Keeps.below B2.out)).trans (K2.out.one q)⟩
            rw [RSS.out]
            exact SO2.out
end Go.Proofs.Ytlgodbjbllpipaa
