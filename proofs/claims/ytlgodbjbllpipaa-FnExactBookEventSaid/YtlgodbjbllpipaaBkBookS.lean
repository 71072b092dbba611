/- The walk of l36Book. No condition. -/
import Derived.Test.YtlgodbjbllpipaaBkBook
namespace Go.Proofs.Ytlgodbjbllpipaa
open Go.ChangeShapes Go.WideShapes Go.ChangeAt Go.RowKit

theorem blk_set3 {w : World} {r : Nat} {a b c : Value} {t : TypeId} (hr : w.heap[r]? = some (.cells #[a, b, c] t (0, 0))) (u0 u1 u2 : Value) : (((w.setCell ⟨r, 0, none⟩ u0).setCell ⟨r, 1, none⟩ u1).setCell ⟨r, 2, none⟩ u2).heap[r]? = some (.cells #[u0, u1, u2] t (0, 0)) :=
  heap_setCell_same _ r 2 _ _ u2 (heap_setCell_same _ r 1 _ _ u1 (heap_setCell_same w r 0 _ _ u0 hr))
theorem Keeps.into {w w1 w2 : World} (h : Keeps none w w1) (hb : Below w.heap.size w1 w2) : Keeps none w w2 := fun k cs t ht hk => by
  rw [hb.block k (Array.getElem?_eq_some_iff.1 hk).1]
  exact h k cs t ht hk
theorem blk_set3_ne {w : World} {r k : Nat} (h : k ≠ r) (u0 u1 u2 : Value) : (((w.setCell ⟨r, 0, none⟩ u0).setCell ⟨r, 1, none⟩ u1).setCell ⟨r, 2, none⟩ u2).heap[k]? = w.heap[k]? :=
  (Below.heap_setCell _ _ _ _ h).trans ((Below.heap_setCell _ _ _ _ h).trans (Below.heap_setCell _ _ _ _ h))
set_option maxRecDepth 100000 in
set_option maxHeartbeats 8000000 in
theorem specBookBuy (lo hi2 : Nat) (sA : Option Addr) (sn sc : Nat) (dA : Option Addr) (dn dc : Nat) (b : Bk) (e : Ev) (w : World) (hbk : BooksO w lo hi2 (.slice sA sn sc) sn b.ss (.slice dA dn dc) dn b.ds) (hlo : lo ≤ w.heap.size) (hss : shsOk b.ss = true) (hok : docsSmall b.ds) (hdn : b.ds.length ≤ 1048576) (hwk : 0 ≤ b.k ∧ b.k ≤ 1000000000) (hk : e.kind = 1) (ha1 : 1 ≤ e.a) (ha2 : e.a ≤ 100000) :
    Calls Try.prog 57 #[.agg #[.slice sA sn sc, .int .i64 b.k, .slice dA dn dc], evAgg e] w fun r w' => ∃ A n c kk D m d, r = .returned (.tuple #[.agg #[.slice A n c, .int .i64 kk, .slice D m d], .int .i64 (bookBuy b e).1]) ∧
      ((bookBuy b e).1 = 0 → kk = (bookBuy b e).2.k ∧ BooksO w' lo w'.heap.size (.slice A n c) n (bookBuy b e).2.ss (.slice D m d) m (bookBuy b e).2.ds) ∧ Below lo w w' ∧ Keeps none w w' := by
  obtain ⟨ss, k, ds⟩ := b
  simp only at hbk hss hok hdn hwk ⊢
  obtain ⟨hwk1, hwk2⟩ := hwk
  obtain ⟨id, day, kind, item, eq, ea, er⟩ := e
  simp only at hk ha1 ha2
  subst hk
  have b0 := Lib.hid (below_then (below_then (below_box w (Obj.cells #[.slice sA sn sc, .int .i64 k, .slice dA dn dc] 31)) (below_box _ (Obj.cells #[.int .i64 id, .int .i64 day, .int .i64 1, .string item, .int .i64 eq, .int .i64 ea, .int .i64 er] 44))) (below_box _ (Obj.cells #[.slice none 0 0, .int .i64 0, .slice none 0 0] 31)))
  have Q := Lib.hid (blk_alloc (blk_alloc (blk_new1 w (Obj.cells #[.slice sA sn sc, .int .i64 k, .slice dA dn dc] 31)) (Obj.cells #[.int .i64 id, .int .i64 day, .int .i64 1, .string item, .int .i64 eq, .int .i64 ea, .int .i64 er] 44)) (Obj.cells #[.slice none 0 0, .int .i64 0, .slice none 0 0] 31))
  have E := Lib.hid (blk_alloc (blk_new2 w (Obj.cells #[.slice sA sn sc, .int .i64 k, .slice dA dn dc] 31) (Obj.cells #[.int .i64 id, .int .i64 day, .int .i64 1, .string item, .int .i64 eq, .int .i64 ea, .int .i64 er] 44)) (Obj.cells #[.slice none 0 0, .int .i64 0, .slice none 0 0] 31))
  have Z := Lib.hid (blk_new3 w (Obj.cells #[.slice sA sn sc, .int .i64 k, .slice dA dn dc] 31) (Obj.cells #[.int .i64 id, .int .i64 day, .int .i64 1, .string item, .int .i64 eq, .int .i64 ea, .int .i64 er] 44) (Obj.cells #[.slice none 0 0, .int .i64 0, .slice none 0 0] 31))
  have HB := Lib.hid (hbk.below b0.out).top
  have OK := Lib.hid hok
  have B0 := Lib.hid (b0.out.mono hlo)
  have K0 := Lib.hid (Keeps.below (q := none) b0.out)
  have hW0 : ∃ W, W = (((w.alloc (Obj.cells #[.slice sA sn sc, .int .i64 k, .slice dA dn dc] 31)).alloc (Obj.cells #[.int .i64 id, .int .i64 day, .int .i64 1, .string item, .int .i64 eq, .int .i64 ea, .int .i64 er] 44)).alloc (Obj.cells #[.slice none 0 0, .int .i64 0, .slice none 0 0] 31)) := ⟨_, rfl⟩
  obtain ⟨W, hW⟩ := hW0
  rw [← hW] at b0 Q E Z HB B0 K0
  have zW : lo ≤ W.heap.size := Nat.le_trans hlo B0.out.size
  clear hbk hok b0
  go_enter Try.func57, Try.ntmps57
  go_wp2_with fail
  rw [← hW]
  clear hW
  cases hr : recvOk ss item eq ea
  · have HR := Lib.hid hr; clear hr
    have R := Lib.hid (show (bookBuy ⟨ss, k, ds⟩ ⟨id, day, 1, item, eq, ea, er⟩).1 = 3 by simp [bookBuy, HR.out])
    refine (specReceiveBk lo _ sA sn sc k dA dn dc ss ds ⟨id, day, 1, item, eq, ea, er⟩ W HB.out (Nat.le_trans hlo B0.out.size) hss).mono ?_; simp only; rw [HR.out, show okCode false = 3 from rfl]; rintro r w1 ⟨A1, n1, c1, D1, m1, d1, rfl, h1, hb1, hk1⟩
    have Q1 := Lib.hid (hk1 _ _ _ (.inr ⟨rfl, by simp⟩) Q.out); have E1 := Lib.hid (hk1 _ _ _ (.inl rfl) E.out); have Z1 := Lib.hid (hk1 _ _ _ (.inr ⟨rfl, by simp⟩) Z.out)
    have B1 := Lib.hid (B0.out.trans hb1); have K1 := Lib.hid (K0.out.trans hk1)
    clear h1 hb1 hk1
    have x0 := blk_at Q1.out (j := 0) rfl; have x1 := blk_at Q1.out (j := 1) rfl; have x2 := blk_at Q1.out (j := 2) rfl; have xf := blk_free Q1.out
    go_upto_region 20 with fail
    obtain ⟨V1, hV⟩ : ∃ V1, V1 = (((w1.setCell ⟨w.heap.size, 0, none⟩ (.slice A1 n1 c1)).setCell ⟨w.heap.size, 1, none⟩ (.int .i64 k)).setCell ⟨w.heap.size, 2, none⟩ (.slice D1 m1 d1)) := ⟨_, rfl⟩
    have QV1 := Lib.hid (show V1.heap[w.heap.size]? = _ from hV ▸ blk_set3 Q1.out (.slice A1 n1 c1) (.int .i64 k) (.slice D1 m1 d1))
    have EV1 := Lib.hid ((show V1.heap[w.heap.size + 1]? = _ from hV ▸ blk_set3_ne (by omega) (.slice A1 n1 c1) (.int .i64 k) (.slice D1 m1 d1)).trans E1.out)
    have ZV1 := Lib.hid ((show V1.heap[w.heap.size + 1 + 1]? = _ from hV ▸ blk_set3_ne (by omega) (.slice A1 n1 c1) (.int .i64 k) (.slice D1 m1 d1)).trans Z1.out)
    have BV1 := Lib.hid (show Below lo w V1 from hV ▸ below_out3 B1.out hlo (.slice A1 n1 c1) (.int .i64 k) (.slice D1 m1 d1))
    have KV1 := Lib.hid (show Keeps none w V1 from hV ▸ Keeps.into K1.out (below_out3 (Below.refl _ _) (Nat.le_refl _) (.slice A1 n1 c1) (.int .i64 k) (.slice D1 m1 d1)))
    rw [← hV]
    clear hV x0 x1 x2 xf
    have x0 := blk_at QV1.out (j := 0) rfl; have x1 := blk_at QV1.out (j := 1) rfl; have x2 := blk_at QV1.out (j := 2) rfl; have xf := blk_free QV1.out
    have z0 := blk_at ZV1.out (j := 0) rfl; have z1 := blk_at ZV1.out (j := 1) rfl; have z2 := blk_at ZV1.out (j := 2) rfl; have zf := blk_free ZV1.out
    go_wp2_with fail
    rw [R.out]
    refine bodyPost_ret (v := .tuple #[.agg #[.slice A1 n1 c1, .int .i64 k, .slice D1 m1 d1], .int .i64 3]) (by simp [results, Try.results57, go_sem, z0, z1, z2]) rfl ⟨A1, n1, c1, k, D1, m1, d1, rfl, (fun h => by first | (exact absurd h (by decide)) | (cases h) | (exact absurd h ‹_›)), below_out3 BV1.out (by omega) _ _ _, Keeps.into KV1.out (below_out3 (Below.refl _ _) (by omega) _ _ _)⟩
  · have HR := Lib.hid hr; clear hr
    refine (specReceiveBk lo _ sA sn sc k dA dn dc ss ds ⟨id, day, 1, item, eq, ea, er⟩ W HB.out (Nat.le_trans hlo B0.out.size) hss).mono ?_; simp only; rw [HR.out, show okCode true = 0 from rfl]; rintro r w1 ⟨A1, n1, c1, D1, m1, d1, rfl, h1, hb1, hk1⟩
    have Q1 := Lib.hid (hk1 _ _ _ (.inr ⟨rfl, by simp⟩) Q.out); have E1 := Lib.hid (hk1 _ _ _ (.inl rfl) E.out); have Z1 := Lib.hid (hk1 _ _ _ (.inr ⟨rfl, by simp⟩) Z.out)
    have B1 := Lib.hid (B0.out.trans hb1); have K1 := Lib.hid (K0.out.trans hk1)
    have H1 := Lib.hid (h1 rfl)
    clear h1 hb1 hk1
    have x0 := blk_at Q1.out (j := 0) rfl; have x1 := blk_at Q1.out (j := 1) rfl; have x2 := blk_at Q1.out (j := 2) rfl; have xf := blk_free Q1.out
    go_upto_region 20 with fail
    obtain ⟨V1, hV⟩ : ∃ V1, V1 = (((w1.setCell ⟨w.heap.size, 0, none⟩ (.slice A1 n1 c1)).setCell ⟨w.heap.size, 1, none⟩ (.int .i64 k)).setCell ⟨w.heap.size, 2, none⟩ (.slice D1 m1 d1)) := ⟨_, rfl⟩
    have QV1 := Lib.hid (show V1.heap[w.heap.size]? = _ from hV ▸ blk_set3 Q1.out (.slice A1 n1 c1) (.int .i64 k) (.slice D1 m1 d1))
    have EV1 := Lib.hid ((show V1.heap[w.heap.size + 1]? = _ from hV ▸ blk_set3_ne (by omega) (.slice A1 n1 c1) (.int .i64 k) (.slice D1 m1 d1)).trans E1.out)
    have ZV1 := Lib.hid ((show V1.heap[w.heap.size + 1 + 1]? = _ from hV ▸ blk_set3_ne (by omega) (.slice A1 n1 c1) (.int .i64 k) (.slice D1 m1 d1)).trans Z1.out)
    have BV1 := Lib.hid (show Below lo w V1 from hV ▸ below_out3 B1.out hlo (.slice A1 n1 c1) (.int .i64 k) (.slice D1 m1 d1))
    have KV1 := Lib.hid (show Keeps none w V1 from hV ▸ Keeps.into K1.out (below_out3 (Below.refl _ _) (Nat.le_refl _) (.slice A1 n1 c1) (.int .i64 k) (.slice D1 m1 d1)))
    have HV1 := Lib.hid (show BooksO V1 lo V1.heap.size _ _ _ _ _ _ from hV ▸ (BooksO.out3 H1.out Q1.out (.slice A1 n1 c1) (.int .i64 k) (.slice D1 m1 d1)).top)
    rw [← hV]
    clear hV x0 x1 x2 xf
    cases hp : bkPostOk ds day (buyE ⟨id, day, 1, item, eq, ea, er⟩)
    · have HP := Lib.hid hp; clear hp
      have R := Lib.hid (show (bookBuy ⟨ss, k, ds⟩ ⟨id, day, 1, item, eq, ea, er⟩).1 = 3 by simp [bookBuy, HR.out, postB, HP.out])
      have ec := evCells (e := ⟨id, day, 1, item, eq, ea, er⟩) EV1.out; obtain ⟨y0, y1, y2, y3, y4, y5, y6⟩ := ec; simp only at y0 y1 y2 y3 y4 y5 y6; have y5a := cell_alloc y5
      have x0 := blk_at QV1.out (j := 0) rfl; have x1 := blk_at QV1.out (j := 1) rfl; have x2 := blk_at QV1.out (j := 2) rfl; have xf := blk_free QV1.out
      go_wp2_with fail
      clear x0 x1 x2 xf
      refine (specPostBk lo _ A1 n1 c1 (k) D1 m1 d1 (recvSs ss item eq ea id) ds day _ 2 2 _ 2 (buyE ⟨id, day, 1, item, eq, ea, er⟩) _ (HV1.out.below (below_then (below_box _ _) (below_box _ _))) (Nat.le_trans (Nat.le_trans hlo BV1.out.size) (below_then (below_box _ _) (below_box _ _)).size) OK.out hdn ((RS_new (by rfl)).alloc _) (RS_new2 (by rfl)) (by omega) (buyE_small _)).mono ?_; rw [HP.out, show okCode false = 3 from rfl]; rintro r w5 ⟨D5, m5, d5, rfl, h5, hb5⟩
      have b5 := Lib.hid (show Below V1.heap.size V1 w5 from below_then (below_then (below_box _ _) (below_box _ _)) hb5)
      have Q5 := Lib.hid (blk_keep b5.out QV1.out); have E5 := Lib.hid (blk_keep b5.out EV1.out); have Z5 := Lib.hid (blk_keep b5.out ZV1.out)
      have B5 := Lib.hid (BV1.out.trans (b5.out.mono (Nat.le_trans hlo BV1.out.size)))
      have K5 := Lib.hid (KV1.out.trans (Keeps.below b5.out))
      clear h5 hb5 b5 y0 y1 y2 y3 y4 y5 y5a y6
      have x0 := blk_at Q5.out (j := 0) rfl; have x1 := blk_at Q5.out (j := 1) rfl; have x2 := blk_at Q5.out (j := 2) rfl; have xf := blk_free Q5.out
      go_upto_region 40 with fail
      obtain ⟨VE, hV⟩ : ∃ VE, VE = (((w5.setCell ⟨w.heap.size, 0, none⟩ (.slice A1 n1 c1)).setCell ⟨w.heap.size, 1, none⟩ (.int .i64 k)).setCell ⟨w.heap.size, 2, none⟩ (.slice D5 m5 d5)) := ⟨_, rfl⟩
      have QVE := Lib.hid (show VE.heap[w.heap.size]? = _ from hV ▸ blk_set3 Q5.out (.slice A1 n1 c1) (.int .i64 k) (.slice D5 m5 d5))
      have EVE := Lib.hid ((show VE.heap[w.heap.size + 1]? = _ from hV ▸ blk_set3_ne (by omega) (.slice A1 n1 c1) (.int .i64 k) (.slice D5 m5 d5)).trans E5.out)
      have ZVE := Lib.hid ((show VE.heap[w.heap.size + 1 + 1]? = _ from hV ▸ blk_set3_ne (by omega) (.slice A1 n1 c1) (.int .i64 k) (.slice D5 m5 d5)).trans Z5.out)
      have BVE := Lib.hid (show Below lo w VE from hV ▸ below_out3 B5.out hlo (.slice A1 n1 c1) (.int .i64 k) (.slice D5 m5 d5))
      have KVE := Lib.hid (show Keeps none w VE from hV ▸ Keeps.into K5.out (below_out3 (Below.refl _ _) (Nat.le_refl _) (.slice A1 n1 c1) (.int .i64 k) (.slice D5 m5 d5)))
      rw [← hV]
      clear hV x0 x1 x2 xf
      have x0 := blk_at QVE.out (j := 0) rfl; have x1 := blk_at QVE.out (j := 1) rfl; have x2 := blk_at QVE.out (j := 2) rfl; have xf := blk_free QVE.out
      have z0 := blk_at ZVE.out (j := 0) rfl; have z1 := blk_at ZVE.out (j := 1) rfl; have z2 := blk_at ZVE.out (j := 2) rfl; have zf := blk_free ZVE.out
      go_wp2_with fail
      rw [R.out]
      refine bodyPost_ret (v := .tuple #[.agg #[.slice A1 n1 c1, .int .i64 k, .slice D5 m5 d5], .int .i64 3]) (by simp [results, Try.results57, go_sem, z0, z1, z2]) rfl ⟨A1, n1, c1, k, D5, m5, d5, rfl, (fun h => by first | (exact absurd h (by decide)) | (cases h) | (exact absurd h ‹_›)), below_out3 BVE.out (by omega) _ _ _, Keeps.into KVE.out (below_out3 (Below.refl _ _) (by omega) _ _ _)⟩
    · have HP := Lib.hid hp; clear hp
      have R := Lib.hid (show bookBuy ⟨ss, k, ds⟩ ⟨id, day, 1, item, eq, ea, er⟩ = (0, ⟨recvSs ss item eq ea id, k, bkPostDs ds day (buyE ⟨id, day, 1, item, eq, ea, er⟩)⟩) by simp [bookBuy, HR.out, postB, HP.out])
      have ec := evCells (e := ⟨id, day, 1, item, eq, ea, er⟩) EV1.out; obtain ⟨y0, y1, y2, y3, y4, y5, y6⟩ := ec; simp only at y0 y1 y2 y3 y4 y5 y6; have y5a := cell_alloc y5
      have x0 := blk_at QV1.out (j := 0) rfl; have x1 := blk_at QV1.out (j := 1) rfl; have x2 := blk_at QV1.out (j := 2) rfl; have xf := blk_free QV1.out
      go_wp2_with fail
      clear x0 x1 x2 xf
      refine (specPostBk lo _ A1 n1 c1 (k) D1 m1 d1 (recvSs ss item eq ea id) ds day _ 2 2 _ 2 (buyE ⟨id, day, 1, item, eq, ea, er⟩) _ (HV1.out.below (below_then (below_box _ _) (below_box _ _))) (Nat.le_trans (Nat.le_trans hlo BV1.out.size) (below_then (below_box _ _) (below_box _ _)).size) OK.out hdn ((RS_new (by rfl)).alloc _) (RS_new2 (by rfl)) (by omega) (buyE_small _)).mono ?_; rw [HP.out, show okCode true = 0 from rfl]; rintro r w5 ⟨D5, m5, d5, rfl, h5, hb5⟩
      have b5 := Lib.hid (show Below V1.heap.size V1 w5 from below_then (below_then (below_box _ _) (below_box _ _)) hb5)
      have Q5 := Lib.hid (blk_keep b5.out QV1.out); have E5 := Lib.hid (blk_keep b5.out EV1.out); have Z5 := Lib.hid (blk_keep b5.out ZV1.out)
      have B5 := Lib.hid (BV1.out.trans (b5.out.mono (Nat.le_trans hlo BV1.out.size)))
      have K5 := Lib.hid (KV1.out.trans (Keeps.below b5.out))
      have H5 := Lib.hid (h5 rfl)
      clear h5 hb5 b5 y0 y1 y2 y3 y4 y5 y5a y6
      have x0 := blk_at Q5.out (j := 0) rfl; have x1 := blk_at Q5.out (j := 1) rfl; have x2 := blk_at Q5.out (j := 2) rfl; have xf := blk_free Q5.out
      go_upto_region 40 with fail
      obtain ⟨VE, hV⟩ : ∃ VE, VE = (((w5.setCell ⟨w.heap.size, 0, none⟩ (.slice A1 n1 c1)).setCell ⟨w.heap.size, 1, none⟩ (.int .i64 k)).setCell ⟨w.heap.size, 2, none⟩ (.slice D5 m5 d5)) := ⟨_, rfl⟩
      have QVE := Lib.hid (show VE.heap[w.heap.size]? = _ from hV ▸ blk_set3 Q5.out (.slice A1 n1 c1) (.int .i64 k) (.slice D5 m5 d5))
      have EVE := Lib.hid ((show VE.heap[w.heap.size + 1]? = _ from hV ▸ blk_set3_ne (by omega) (.slice A1 n1 c1) (.int .i64 k) (.slice D5 m5 d5)).trans E5.out)
      have ZVE := Lib.hid ((show VE.heap[w.heap.size + 1 + 1]? = _ from hV ▸ blk_set3_ne (by omega) (.slice A1 n1 c1) (.int .i64 k) (.slice D5 m5 d5)).trans Z5.out)
      have BVE := Lib.hid (show Below lo w VE from hV ▸ below_out3 B5.out hlo (.slice A1 n1 c1) (.int .i64 k) (.slice D5 m5 d5))
      have KVE := Lib.hid (show Keeps none w VE from hV ▸ Keeps.into K5.out (below_out3 (Below.refl _ _) (Nat.le_refl _) (.slice A1 n1 c1) (.int .i64 k) (.slice D5 m5 d5)))
      have HVE := Lib.hid (show BooksO VE lo VE.heap.size _ _ _ _ _ _ from hV ▸ (BooksO.out3 H5.out Q5.out (.slice A1 n1 c1) (.int .i64 k) (.slice D5 m5 d5)).top)
      rw [← hV]
      clear hV x0 x1 x2 xf
      have x0 := blk_at QVE.out (j := 0) rfl; have x1 := blk_at QVE.out (j := 1) rfl; have x2 := blk_at QVE.out (j := 2) rfl; have xf := blk_free QVE.out
      have z0 := blk_at ZVE.out (j := 0) rfl; have z1 := blk_at ZVE.out (j := 1) rfl; have z2 := blk_at ZVE.out (j := 2) rfl; have zf := blk_free ZVE.out
      go_wp2_with fail
      rw [R.out]
      refine bodyPost_ret (v := .tuple #[.agg #[.slice A1 n1 c1, .int .i64 k, .slice D5 m5 d5], .int .i64 0]) (by simp [results, Try.results57, go_sem, z0, z1, z2]) rfl ⟨A1, n1, c1, k, D5, m5, d5, rfl, fun _ => ⟨rfl, (BooksO.out3 HVE.out ZVE.out _ _ _).top⟩, below_out3 BVE.out (by omega) _ _ _, Keeps.into KVE.out (below_out3 (Below.refl _ _) (by omega) _ _ _)⟩
set_option maxRecDepth 100000 in
set_option maxHeartbeats 8000000 in
theorem specBookMake (lo hi2 : Nat) (sA : Option Addr) (sn sc : Nat) (dA : Option Addr) (dn dc : Nat) (b : Bk) (e : Ev) (w : World) (hbk : BooksO w lo hi2 (.slice sA sn sc) sn b.ss (.slice dA dn dc) dn b.ds) (hlo : lo ≤ w.heap.size) (hss : shsOk b.ss = true) (hok : docsSmall b.ds) (hdn : b.ds.length ≤ 1048576) (hwk : 0 ≤ b.k ∧ b.k ≤ 1000000000) (hk : e.kind = 3) (ha1 : 1 ≤ e.a) (ha2 : e.a ≤ 100000) :
    Calls Try.prog 57 #[.agg #[.slice sA sn sc, .int .i64 b.k, .slice dA dn dc], evAgg e] w fun r w' => ∃ A n c kk D m d, r = .returned (.tuple #[.agg #[.slice A n c, .int .i64 kk, .slice D m d], .int .i64 (bookMake b e).1]) ∧
      ((bookMake b e).1 = 0 → kk = (bookMake b e).2.k ∧ BooksO w' lo w'.heap.size (.slice A n c) n (bookMake b e).2.ss (.slice D m d) m (bookMake b e).2.ds) ∧ Below lo w w' ∧ Keeps none w w' := by
  obtain ⟨ss, k, ds⟩ := b
  simp only at hbk hss hok hdn hwk ⊢
  obtain ⟨hwk1, hwk2⟩ := hwk
  obtain ⟨id, day, kind, item, eq, ea, er⟩ := e
  simp only at hk ha1 ha2
  subst hk
  have b0 := Lib.hid (below_then (below_then (below_box w (Obj.cells #[.slice sA sn sc, .int .i64 k, .slice dA dn dc] 31)) (below_box _ (Obj.cells #[.int .i64 id, .int .i64 day, .int .i64 3, .string item, .int .i64 eq, .int .i64 ea, .int .i64 er] 44))) (below_box _ (Obj.cells #[.slice none 0 0, .int .i64 0, .slice none 0 0] 31)))
  have Q := Lib.hid (blk_alloc (blk_alloc (blk_new1 w (Obj.cells #[.slice sA sn sc, .int .i64 k, .slice dA dn dc] 31)) (Obj.cells #[.int .i64 id, .int .i64 day, .int .i64 3, .string item, .int .i64 eq, .int .i64 ea, .int .i64 er] 44)) (Obj.cells #[.slice none 0 0, .int .i64 0, .slice none 0 0] 31))
  have E := Lib.hid (blk_alloc (blk_new2 w (Obj.cells #[.slice sA sn sc, .int .i64 k, .slice dA dn dc] 31) (Obj.cells #[.int .i64 id, .int .i64 day, .int .i64 3, .string item, .int .i64 eq, .int .i64 ea, .int .i64 er] 44)) (Obj.cells #[.slice none 0 0, .int .i64 0, .slice none 0 0] 31))
  have Z := Lib.hid (blk_new3 w (Obj.cells #[.slice sA sn sc, .int .i64 k, .slice dA dn dc] 31) (Obj.cells #[.int .i64 id, .int .i64 day, .int .i64 3, .string item, .int .i64 eq, .int .i64 ea, .int .i64 er] 44) (Obj.cells #[.slice none 0 0, .int .i64 0, .slice none 0 0] 31))
  have HB := Lib.hid (hbk.below b0.out).top
  have OK := Lib.hid hok
  have B0 := Lib.hid (b0.out.mono hlo)
  have K0 := Lib.hid (Keeps.below (q := none) b0.out)
  have hW0 : ∃ W, W = (((w.alloc (Obj.cells #[.slice sA sn sc, .int .i64 k, .slice dA dn dc] 31)).alloc (Obj.cells #[.int .i64 id, .int .i64 day, .int .i64 3, .string item, .int .i64 eq, .int .i64 ea, .int .i64 er] 44)).alloc (Obj.cells #[.slice none 0 0, .int .i64 0, .slice none 0 0] 31)) := ⟨_, rfl⟩
  obtain ⟨W, hW⟩ := hW0
  rw [← hW] at b0 Q E Z HB B0 K0
  have zW : lo ≤ W.heap.size := Nat.le_trans hlo B0.out.size
  clear hbk hok b0
  by_cases hkm : k < ea
  · have R := Lib.hid (show (bookMake ⟨ss, k, ds⟩ ⟨id, day, 3, item, eq, ea, er⟩).1 = 2 by simp [bookMake, hkm])
    have QW := Q; have ZW := Z; have BW := B0; have KW := K0
    have ec := evCells (e := ⟨id, day, 3, item, eq, ea, er⟩) E.out; obtain ⟨y0, y1, y2, y3, y4, y5, y6⟩ := ec; simp only at y0 y1 y2 y3 y4 y5 y6; have y5a := cell_alloc y5
    have x0 := blk_at Q.out (j := 0) rfl; have x1 := blk_at Q.out (j := 1) rfl; have x2 := blk_at Q.out (j := 2) rfl; have xf := blk_free Q.out
    go_enter Try.func57, Try.ntmps57
    go_upto_region 23 with fail
    rw [← hW]
    clear hW
    have x0 := blk_at QW.out (j := 0) rfl; have x1 := blk_at QW.out (j := 1) rfl; have x2 := blk_at QW.out (j := 2) rfl; have xf := blk_free QW.out
    have z0 := blk_at ZW.out (j := 0) rfl; have z1 := blk_at ZW.out (j := 1) rfl; have z2 := blk_at ZW.out (j := 2) rfl; have zf := blk_free ZW.out
    go_wp2_with fail
    rw [R.out]
    refine bodyPost_ret (v := .tuple #[.agg #[.slice sA sn sc, .int .i64 k, .slice dA dn dc], .int .i64 2]) (by simp [results, Try.results57, go_sem, z0, z1, z2]) rfl ⟨sA, sn, sc, k, dA, dn, dc, rfl, (fun h => by first | (exact absurd h (by decide)) | (cases h) | (exact absurd h ‹_›)), below_out3 BW.out (by omega) _ _ _, Keeps.into KW.out (below_out3 (Below.refl _ _) (by omega) _ _ _)⟩
  · have ec := evCells (e := ⟨id, day, 3, item, eq, ea, er⟩) E.out; obtain ⟨y0, y1, y2, y3, y4, y5, y6⟩ := ec; simp only at y0 y1 y2 y3 y4 y5 y6; have y5a := cell_alloc y5
    have x0 := blk_at Q.out (j := 0) rfl; have x1 := blk_at Q.out (j := 1) rfl; have x2 := blk_at Q.out (j := 2) rfl; have xf := blk_free Q.out
    go_enter Try.func57, Try.ntmps57
    go_upto_region 23 with fail
    rw [← hW]
    clear hW
    go_wp2_with fail
    clear x0 x1 x2 xf y0 y1 y2 y3 y4 y5 y5a y6
    have wk : IntKind.i64.wrap (k - ea) = k - ea := IntWalk.i64_in _ (by omega)
    have HKM := Lib.hid hkm
    cases hr : recvOk ss item eq ea
    · have HR := Lib.hid hr; clear hr
      have R := Lib.hid (show (bookMake ⟨ss, k, ds⟩ ⟨id, day, 3, item, eq, ea, er⟩).1 = 3 by simp [bookMake, show ¬ k < ea from by have := HKM.out; omega, HR.out])
      refine (specReceiveBk lo _ sA sn sc k dA dn dc ss ds ⟨id, day, 3, item, eq, ea, er⟩ W HB.out (Nat.le_trans hlo B0.out.size) hss).mono ?_; simp only; rw [HR.out, show okCode false = 3 from rfl]; rintro r w1 ⟨A1, n1, c1, D1, m1, d1, rfl, h1, hb1, hk1⟩
      have Q1 := Lib.hid (hk1 _ _ _ (.inr ⟨rfl, by simp⟩) Q.out); have E1 := Lib.hid (hk1 _ _ _ (.inl rfl) E.out); have Z1 := Lib.hid (hk1 _ _ _ (.inr ⟨rfl, by simp⟩) Z.out)
      have B1 := Lib.hid (B0.out.trans hb1); have K1 := Lib.hid (K0.out.trans hk1)
      clear h1 hb1 hk1
      have x0 := blk_at Q1.out (j := 0) rfl; have x1 := blk_at Q1.out (j := 1) rfl; have x2 := blk_at Q1.out (j := 2) rfl; have xf := blk_free Q1.out
      go_upto_region 26 with fail
      obtain ⟨V1, hV⟩ : ∃ V1, V1 = (((w1.setCell ⟨w.heap.size, 0, none⟩ (.slice A1 n1 c1)).setCell ⟨w.heap.size, 1, none⟩ (.int .i64 k)).setCell ⟨w.heap.size, 2, none⟩ (.slice D1 m1 d1)) := ⟨_, rfl⟩
      have QV1 := Lib.hid (show V1.heap[w.heap.size]? = _ from hV ▸ blk_set3 Q1.out (.slice A1 n1 c1) (.int .i64 k) (.slice D1 m1 d1))
      have EV1 := Lib.hid ((show V1.heap[w.heap.size + 1]? = _ from hV ▸ blk_set3_ne (by omega) (.slice A1 n1 c1) (.int .i64 k) (.slice D1 m1 d1)).trans E1.out)
      have ZV1 := Lib.hid ((show V1.heap[w.heap.size + 1 + 1]? = _ from hV ▸ blk_set3_ne (by omega) (.slice A1 n1 c1) (.int .i64 k) (.slice D1 m1 d1)).trans Z1.out)
      have BV1 := Lib.hid (show Below lo w V1 from hV ▸ below_out3 B1.out hlo (.slice A1 n1 c1) (.int .i64 k) (.slice D1 m1 d1))
      have KV1 := Lib.hid (show Keeps none w V1 from hV ▸ Keeps.into K1.out (below_out3 (Below.refl _ _) (Nat.le_refl _) (.slice A1 n1 c1) (.int .i64 k) (.slice D1 m1 d1)))
      rw [← hV]
      clear hV x0 x1 x2 xf
      have x0 := blk_at QV1.out (j := 0) rfl; have x1 := blk_at QV1.out (j := 1) rfl; have x2 := blk_at QV1.out (j := 2) rfl; have xf := blk_free QV1.out
      have z0 := blk_at ZV1.out (j := 0) rfl; have z1 := blk_at ZV1.out (j := 1) rfl; have z2 := blk_at ZV1.out (j := 2) rfl; have zf := blk_free ZV1.out
      go_wp2_with fail
      rw [R.out]
      refine bodyPost_ret (v := .tuple #[.agg #[.slice A1 n1 c1, .int .i64 k, .slice D1 m1 d1], .int .i64 3]) (by simp [results, Try.results57, go_sem, z0, z1, z2]) rfl ⟨A1, n1, c1, k, D1, m1, d1, rfl, (fun h => by first | (exact absurd h (by decide)) | (cases h) | (exact absurd h ‹_›)), below_out3 BV1.out (by omega) _ _ _, Keeps.into KV1.out (below_out3 (Below.refl _ _) (by omega) _ _ _)⟩
    · have HR := Lib.hid hr; clear hr
      refine (specReceiveBk lo _ sA sn sc k dA dn dc ss ds ⟨id, day, 3, item, eq, ea, er⟩ W HB.out (Nat.le_trans hlo B0.out.size) hss).mono ?_; simp only; rw [HR.out, show okCode true = 0 from rfl]; rintro r w1 ⟨A1, n1, c1, D1, m1, d1, rfl, h1, hb1, hk1⟩
      have Q1 := Lib.hid (hk1 _ _ _ (.inr ⟨rfl, by simp⟩) Q.out); have E1 := Lib.hid (hk1 _ _ _ (.inl rfl) E.out); have Z1 := Lib.hid (hk1 _ _ _ (.inr ⟨rfl, by simp⟩) Z.out)
      have B1 := Lib.hid (B0.out.trans hb1); have K1 := Lib.hid (K0.out.trans hk1)
      have H1 := Lib.hid (h1 rfl)
      clear h1 hb1 hk1
      have x0 := blk_at Q1.out (j := 0) rfl; have x1 := blk_at Q1.out (j := 1) rfl; have x2 := blk_at Q1.out (j := 2) rfl; have xf := blk_free Q1.out
      go_upto_region 26 with fail
      obtain ⟨V1, hV⟩ : ∃ V1, V1 = (((w1.setCell ⟨w.heap.size, 0, none⟩ (.slice A1 n1 c1)).setCell ⟨w.heap.size, 1, none⟩ (.int .i64 k)).setCell ⟨w.heap.size, 2, none⟩ (.slice D1 m1 d1)) := ⟨_, rfl⟩
      have QV1 := Lib.hid (show V1.heap[w.heap.size]? = _ from hV ▸ blk_set3 Q1.out (.slice A1 n1 c1) (.int .i64 k) (.slice D1 m1 d1))
      have EV1 := Lib.hid ((show V1.heap[w.heap.size + 1]? = _ from hV ▸ blk_set3_ne (by omega) (.slice A1 n1 c1) (.int .i64 k) (.slice D1 m1 d1)).trans E1.out)
      have ZV1 := Lib.hid ((show V1.heap[w.heap.size + 1 + 1]? = _ from hV ▸ blk_set3_ne (by omega) (.slice A1 n1 c1) (.int .i64 k) (.slice D1 m1 d1)).trans Z1.out)
      have BV1 := Lib.hid (show Below lo w V1 from hV ▸ below_out3 B1.out hlo (.slice A1 n1 c1) (.int .i64 k) (.slice D1 m1 d1))
      have KV1 := Lib.hid (show Keeps none w V1 from hV ▸ Keeps.into K1.out (below_out3 (Below.refl _ _) (Nat.le_refl _) (.slice A1 n1 c1) (.int .i64 k) (.slice D1 m1 d1)))
      have HV1 := Lib.hid (show BooksO V1 lo V1.heap.size _ _ _ _ _ _ from hV ▸ (BooksO.out3 H1.out Q1.out (.slice A1 n1 c1) (.int .i64 k) (.slice D1 m1 d1)).top)
      rw [← hV]
      clear hV x0 x1 x2 xf
      have ec := evCells (e := ⟨id, day, 3, item, eq, ea, er⟩) EV1.out; obtain ⟨y0, y1, y2, y3, y4, y5, y6⟩ := ec; simp only at y0 y1 y2 y3 y4 y5 y6; have y5a := cell_alloc y5
      have x0 := blk_at QV1.out (j := 0) rfl; have x1 := blk_at QV1.out (j := 1) rfl; have x2 := blk_at QV1.out (j := 2) rfl; have xf := blk_free QV1.out
      go_upto_region 28 with fail
      clear x0 x1 x2 xf y0 y1 y2 y3 y4 y5 y5a y6
      obtain ⟨V2, hV⟩ : ∃ V2, V2 = V1.setCell ⟨w.heap.size, 1, none⟩ (.int .i64 (k - ea)) := ⟨_, rfl⟩
      have QV2 := Lib.hid (show V2.heap[w.heap.size]? = some (.cells #[.slice A1 n1 c1, .int .i64 (k - ea), .slice D1 m1 d1] 31 (0, 0)) by rw [hV]; exact heap_setCell_same V1 w.heap.size 1 _ _ (.int .i64 (k - ea)) QV1.out)
      have EV2 := Lib.hid ((show V2.heap[w.heap.size + 1]? = _ by rw [hV]; exact Below.heap_setCell _ _ _ _ (Nat.succ_ne_self _)).trans EV1.out)
      have ZV2 := Lib.hid ((show V2.heap[w.heap.size + 1 + 1]? = V1.heap[w.heap.size + 1 + 1]? by rw [hV]; exact Below.heap_setCell _ _ _ _ (by simp only; omega)).trans ZV1.out)
      have BV2 := Lib.hid (show Below lo w V2 by rw [hV]; exact BV1.out.setCell (p := ⟨w.heap.size, 1, none⟩) hlo (.int .i64 (k - ea)))
      have KV2 := Lib.hid (show Keeps none w V2 by rw [hV]; exact Keeps.into KV1.out ((Below.refl _ _).setCell (p := ⟨w.heap.size, 1, none⟩) (Nat.le_refl _) (.int .i64 (k - ea))))
      have HV2 := Lib.hid (show BooksO V2 lo V2.heap.size _ _ _ _ _ _ by rw [hV]; exact (HV1.out.setq (j := 1) (u := .int .i64 (k - ea)) QV1.out rfl).top)
      rw [← hV]
      clear hV
      cases hp : bkPostOk ds day (makeE ⟨id, day, 3, item, eq, ea, er⟩)
      · have HP := Lib.hid hp; clear hp
        have R := Lib.hid (show (bookMake ⟨ss, k, ds⟩ ⟨id, day, 3, item, eq, ea, er⟩).1 = 3 by simp [bookMake, show ¬ k < ea from by have := HKM.out; omega, HR.out, postB, HP.out])
        have ec := evCells (e := ⟨id, day, 3, item, eq, ea, er⟩) EV2.out; obtain ⟨y0, y1, y2, y3, y4, y5, y6⟩ := ec; simp only at y0 y1 y2 y3 y4 y5 y6; have y5a := cell_alloc y5
        have x0 := blk_at QV2.out (j := 0) rfl; have x1 := blk_at QV2.out (j := 1) rfl; have x2 := blk_at QV2.out (j := 2) rfl; have xf := blk_free QV2.out
        go_wp2_with fail
        clear x0 x1 x2 xf
        refine (specPostBk lo _ A1 n1 c1 (k - ea) D1 m1 d1 (recvSs ss item eq ea id) ds day _ 2 2 _ 2 (makeE ⟨id, day, 3, item, eq, ea, er⟩) _ (HV2.out.below (below_then (below_box _ _) (below_box _ _))) (Nat.le_trans (Nat.le_trans hlo BV2.out.size) (below_then (below_box _ _) (below_box _ _)).size) OK.out hdn ((RS_new (by rfl)).alloc _) (RS_new2 (by rfl)) (by omega) (makeE_small _)).mono ?_; rw [HP.out, show okCode false = 3 from rfl]; rintro r w5 ⟨D5, m5, d5, rfl, h5, hb5⟩
        have b5 := Lib.hid (show Below V2.heap.size V2 w5 from below_then (below_then (below_box _ _) (below_box _ _)) hb5)
        have Q5 := Lib.hid (blk_keep b5.out QV2.out); have E5 := Lib.hid (blk_keep b5.out EV2.out); have Z5 := Lib.hid (blk_keep b5.out ZV2.out)
        have B5 := Lib.hid (BV2.out.trans (b5.out.mono (Nat.le_trans hlo BV2.out.size)))
        have K5 := Lib.hid (KV2.out.trans (Keeps.below b5.out))
        clear h5 hb5 b5 y0 y1 y2 y3 y4 y5 y5a y6
        have x0 := blk_at Q5.out (j := 0) rfl; have x1 := blk_at Q5.out (j := 1) rfl; have x2 := blk_at Q5.out (j := 2) rfl; have xf := blk_free Q5.out
        go_upto_region 40 with fail
        obtain ⟨VE, hV⟩ : ∃ VE, VE = (((w5.setCell ⟨w.heap.size, 0, none⟩ (.slice A1 n1 c1)).setCell ⟨w.heap.size, 1, none⟩ (.int .i64 (k - ea))).setCell ⟨w.heap.size, 2, none⟩ (.slice D5 m5 d5)) := ⟨_, rfl⟩
        have QVE := Lib.hid (show VE.heap[w.heap.size]? = _ from hV ▸ blk_set3 Q5.out (.slice A1 n1 c1) (.int .i64 (k - ea)) (.slice D5 m5 d5))
        have EVE := Lib.hid ((show VE.heap[w.heap.size + 1]? = _ from hV ▸ blk_set3_ne (by omega) (.slice A1 n1 c1) (.int .i64 (k - ea)) (.slice D5 m5 d5)).trans E5.out)
        have ZVE := Lib.hid ((show VE.heap[w.heap.size + 1 + 1]? = _ from hV ▸ blk_set3_ne (by omega) (.slice A1 n1 c1) (.int .i64 (k - ea)) (.slice D5 m5 d5)).trans Z5.out)
        have BVE := Lib.hid (show Below lo w VE from hV ▸ below_out3 B5.out hlo (.slice A1 n1 c1) (.int .i64 (k - ea)) (.slice D5 m5 d5))
        have KVE := Lib.hid (show Keeps none w VE from hV ▸ Keeps.into K5.out (below_out3 (Below.refl _ _) (Nat.le_refl _) (.slice A1 n1 c1) (.int .i64 (k - ea)) (.slice D5 m5 d5)))
        rw [← hV]
        clear hV x0 x1 x2 xf
        have x0 := blk_at QVE.out (j := 0) rfl; have x1 := blk_at QVE.out (j := 1) rfl; have x2 := blk_at QVE.out (j := 2) rfl; have xf := blk_free QVE.out
        have z0 := blk_at ZVE.out (j := 0) rfl; have z1 := blk_at ZVE.out (j := 1) rfl; have z2 := blk_at ZVE.out (j := 2) rfl; have zf := blk_free ZVE.out
        go_wp2_with fail
        rw [R.out]
        refine bodyPost_ret (v := .tuple #[.agg #[.slice A1 n1 c1, .int .i64 (k - ea), .slice D5 m5 d5], .int .i64 3]) (by simp [results, Try.results57, go_sem, z0, z1, z2]) rfl ⟨A1, n1, c1, (k - ea), D5, m5, d5, rfl, (fun h => by first | (exact absurd h (by decide)) | (cases h) | (exact absurd h ‹_›)), below_out3 BVE.out (by omega) _ _ _, Keeps.into KVE.out (below_out3 (Below.refl _ _) (by omega) _ _ _)⟩
      · have HP := Lib.hid hp; clear hp
        have R := Lib.hid (show bookMake ⟨ss, k, ds⟩ ⟨id, day, 3, item, eq, ea, er⟩ = (0, ⟨recvSs ss item eq ea id, k - ea, bkPostDs ds day (makeE ⟨id, day, 3, item, eq, ea, er⟩)⟩) by simp [bookMake, show ¬ k < ea from by have := HKM.out; omega, HR.out, postB, HP.out])
        have ec := evCells (e := ⟨id, day, 3, item, eq, ea, er⟩) EV2.out; obtain ⟨y0, y1, y2, y3, y4, y5, y6⟩ := ec; simp only at y0 y1 y2 y3 y4 y5 y6; have y5a := cell_alloc y5
        have x0 := blk_at QV2.out (j := 0) rfl; have x1 := blk_at QV2.out (j := 1) rfl; have x2 := blk_at QV2.out (j := 2) rfl; have xf := blk_free QV2.out
        go_wp2_with fail
        clear x0 x1 x2 xf
        refine (specPostBk lo _ A1 n1 c1 (k - ea) D1 m1 d1 (recvSs ss item eq ea id) ds day _ 2 2 _ 2 (makeE ⟨id, day, 3, item, eq, ea, er⟩) _ (HV2.out.below (below_then (below_box _ _) (below_box _ _))) (Nat.le_trans (Nat.le_trans hlo BV2.out.size) (below_then (below_box _ _) (below_box _ _)).size) OK.out hdn ((RS_new (by rfl)).alloc _) (RS_new2 (by rfl)) (by omega) (makeE_small _)).mono ?_; rw [HP.out, show okCode true = 0 from rfl]; rintro r w5 ⟨D5, m5, d5, rfl, h5, hb5⟩
        have b5 := Lib.hid (show Below V2.heap.size V2 w5 from below_then (below_then (below_box _ _) (below_box _ _)) hb5)
        have Q5 := Lib.hid (blk_keep b5.out QV2.out); have E5 := Lib.hid (blk_keep b5.out EV2.out); have Z5 := Lib.hid (blk_keep b5.out ZV2.out)
        have B5 := Lib.hid (BV2.out.trans (b5.out.mono (Nat.le_trans hlo BV2.out.size)))
        have K5 := Lib.hid (KV2.out.trans (Keeps.below b5.out))
        have H5 := Lib.hid (h5 rfl)
        clear h5 hb5 b5 y0 y1 y2 y3 y4 y5 y5a y6
        have x0 := blk_at Q5.out (j := 0) rfl; have x1 := blk_at Q5.out (j := 1) rfl; have x2 := blk_at Q5.out (j := 2) rfl; have xf := blk_free Q5.out
        go_upto_region 40 with fail
        obtain ⟨VE, hV⟩ : ∃ VE, VE = (((w5.setCell ⟨w.heap.size, 0, none⟩ (.slice A1 n1 c1)).setCell ⟨w.heap.size, 1, none⟩ (.int .i64 (k - ea))).setCell ⟨w.heap.size, 2, none⟩ (.slice D5 m5 d5)) := ⟨_, rfl⟩
        have QVE := Lib.hid (show VE.heap[w.heap.size]? = _ from hV ▸ blk_set3 Q5.out (.slice A1 n1 c1) (.int .i64 (k - ea)) (.slice D5 m5 d5))
        have EVE := Lib.hid ((show VE.heap[w.heap.size + 1]? = _ from hV ▸ blk_set3_ne (by omega) (.slice A1 n1 c1) (.int .i64 (k - ea)) (.slice D5 m5 d5)).trans E5.out)
        have ZVE := Lib.hid ((show VE.heap[w.heap.size + 1 + 1]? = _ from hV ▸ blk_set3_ne (by omega) (.slice A1 n1 c1) (.int .i64 (k - ea)) (.slice D5 m5 d5)).trans Z5.out)
        have BVE := Lib.hid (show Below lo w VE from hV ▸ below_out3 B5.out hlo (.slice A1 n1 c1) (.int .i64 (k - ea)) (.slice D5 m5 d5))
        have KVE := Lib.hid (show Keeps none w VE from hV ▸ Keeps.into K5.out (below_out3 (Below.refl _ _) (Nat.le_refl _) (.slice A1 n1 c1) (.int .i64 (k - ea)) (.slice D5 m5 d5)))
        have HVE := Lib.hid (show BooksO VE lo VE.heap.size _ _ _ _ _ _ from hV ▸ (BooksO.out3 H5.out Q5.out (.slice A1 n1 c1) (.int .i64 (k - ea)) (.slice D5 m5 d5)).top)
        rw [← hV]
        clear hV x0 x1 x2 xf
        have x0 := blk_at QVE.out (j := 0) rfl; have x1 := blk_at QVE.out (j := 1) rfl; have x2 := blk_at QVE.out (j := 2) rfl; have xf := blk_free QVE.out
        have z0 := blk_at ZVE.out (j := 0) rfl; have z1 := blk_at ZVE.out (j := 1) rfl; have z2 := blk_at ZVE.out (j := 2) rfl; have zf := blk_free ZVE.out
        go_wp2_with fail
        rw [R.out]
        refine bodyPost_ret (v := .tuple #[.agg #[.slice A1 n1 c1, .int .i64 (k - ea), .slice D5 m5 d5], .int .i64 0]) (by simp [results, Try.results57, go_sem, z0, z1, z2]) rfl ⟨A1, n1, c1, (k - ea), D5, m5, d5, rfl, fun _ => ⟨rfl, (BooksO.out3 HVE.out ZVE.out _ _ _).top⟩, below_out3 BVE.out (by omega) _ _ _, Keeps.into KVE.out (below_out3 (Below.refl _ _) (by omega) _ _ _)⟩
set_option maxRecDepth 100000 in
set_option maxHeartbeats 8000000 in
theorem specBookSell (lo hi2 : Nat) (sA : Option Addr) (sn sc : Nat) (dA : Option Addr) (dn dc : Nat) (b : Bk) (e : Ev) (w : World) (hbk : BooksO w lo hi2 (.slice sA sn sc) sn b.ss (.slice dA dn dc) dn b.ds) (hlo : lo ≤ w.heap.size) (hss : shsOk b.ss = true) (hok : docsSmall b.ds) (hdn : b.ds.length ≤ 1048576) (hwk : 0 ≤ b.k ∧ b.k ≤ 1000000000) (hk : e.kind = 4) (ha1 : 1 ≤ e.a) (ha2 : e.a ≤ 100000) :
    Calls Try.prog 57 #[.agg #[.slice sA sn sc, .int .i64 b.k, .slice dA dn dc], evAgg e] w fun r w' => ∃ A n c kk D m d, r = .returned (.tuple #[.agg #[.slice A n c, .int .i64 kk, .slice D m d], .int .i64 (bookSell b e).1]) ∧
      ((bookSell b e).1 = 0 → kk = (bookSell b e).2.k ∧ BooksO w' lo w'.heap.size (.slice A n c) n (bookSell b e).2.ss (.slice D m d) m (bookSell b e).2.ds) ∧ Below lo w w' ∧ Keeps none w w' := by
  obtain ⟨ss, k, ds⟩ := b
  simp only at hbk hss hok hdn hwk ⊢
  obtain ⟨hwk1, hwk2⟩ := hwk
  obtain ⟨id, day, kind, item, eq, ea, er⟩ := e
  simp only at hk ha1 ha2
  subst hk
  have b0 := Lib.hid (below_then (below_then (below_box w (Obj.cells #[.slice sA sn sc, .int .i64 k, .slice dA dn dc] 31)) (below_box _ (Obj.cells #[.int .i64 id, .int .i64 day, .int .i64 4, .string item, .int .i64 eq, .int .i64 ea, .int .i64 er] 44))) (below_box _ (Obj.cells #[.slice none 0 0, .int .i64 0, .slice none 0 0] 31)))
  have Q := Lib.hid (blk_alloc (blk_alloc (blk_new1 w (Obj.cells #[.slice sA sn sc, .int .i64 k, .slice dA dn dc] 31)) (Obj.cells #[.int .i64 id, .int .i64 day, .int .i64 4, .string item, .int .i64 eq, .int .i64 ea, .int .i64 er] 44)) (Obj.cells #[.slice none 0 0, .int .i64 0, .slice none 0 0] 31))
  have E := Lib.hid (blk_alloc (blk_new2 w (Obj.cells #[.slice sA sn sc, .int .i64 k, .slice dA dn dc] 31) (Obj.cells #[.int .i64 id, .int .i64 day, .int .i64 4, .string item, .int .i64 eq, .int .i64 ea, .int .i64 er] 44)) (Obj.cells #[.slice none 0 0, .int .i64 0, .slice none 0 0] 31))
  have Z := Lib.hid (blk_new3 w (Obj.cells #[.slice sA sn sc, .int .i64 k, .slice dA dn dc] 31) (Obj.cells #[.int .i64 id, .int .i64 day, .int .i64 4, .string item, .int .i64 eq, .int .i64 ea, .int .i64 er] 44) (Obj.cells #[.slice none 0 0, .int .i64 0, .slice none 0 0] 31))
  have HB := Lib.hid (hbk.below b0.out).top
  have OK := Lib.hid hok
  have B0 := Lib.hid (b0.out.mono hlo)
  have K0 := Lib.hid (Keeps.below (q := none) b0.out)
  have hW0 : ∃ W, W = (((w.alloc (Obj.cells #[.slice sA sn sc, .int .i64 k, .slice dA dn dc] 31)).alloc (Obj.cells #[.int .i64 id, .int .i64 day, .int .i64 4, .string item, .int .i64 eq, .int .i64 ea, .int .i64 er] 44)).alloc (Obj.cells #[.slice none 0 0, .int .i64 0, .slice none 0 0] 31)) := ⟨_, rfl⟩
  obtain ⟨W, hW⟩ := hW0
  rw [← hW] at b0 Q E Z HB B0 K0
  have zW : lo ≤ W.heap.size := Nat.le_trans hlo B0.out.size
  clear hbk hok b0
  go_enter Try.func57, Try.ntmps57
  go_wp2_with fail
  rw [← hW]
  clear hW
  cases hr : issOk ss item eq
  · have HR := Lib.hid hr; clear hr
    have R := Lib.hid (show (bookSell ⟨ss, k, ds⟩ ⟨id, day, 4, item, eq, ea, er⟩).1 = 2 by simp [bookSell, HR.out])
    refine (specIssueBk lo _ sA sn sc k dA dn dc ss ds ⟨id, day, 4, item, eq, ea, er⟩ W HB.out zW hss).mono ?_; simp only; rw [HR.out, show fewCode false = 2 from rfl]; rintro r w1 ⟨A1, n1, c1, D1, m1, d1, y, rfl, h1, hb1, hk1⟩
    have Q1 := Lib.hid (hk1 _ _ _ (.inr ⟨rfl, by simp⟩) Q.out); have E1 := Lib.hid (hk1 _ _ _ (.inl rfl) E.out); have Z1 := Lib.hid (hk1 _ _ _ (.inr ⟨rfl, by simp⟩) Z.out)
    have B1 := Lib.hid (B0.out.trans hb1); have K1 := Lib.hid (K0.out.trans hk1)
    clear h1 hb1 hk1
    have x0 := blk_at Q1.out (j := 0) rfl; have x1 := blk_at Q1.out (j := 1) rfl; have x2 := blk_at Q1.out (j := 2) rfl; have xf := blk_free Q1.out
    go_upto_region 38 with fail
    obtain ⟨V1, hV⟩ : ∃ V1, V1 = (((w1.setCell ⟨w.heap.size, 0, none⟩ (.slice A1 n1 c1)).setCell ⟨w.heap.size, 1, none⟩ (.int .i64 k)).setCell ⟨w.heap.size, 2, none⟩ (.slice D1 m1 d1)) := ⟨_, rfl⟩
    have QV1 := Lib.hid (show V1.heap[w.heap.size]? = _ from hV ▸ blk_set3 Q1.out (.slice A1 n1 c1) (.int .i64 k) (.slice D1 m1 d1))
    have EV1 := Lib.hid ((show V1.heap[w.heap.size + 1]? = _ from hV ▸ blk_set3_ne (by omega) (.slice A1 n1 c1) (.int .i64 k) (.slice D1 m1 d1)).trans E1.out)
    have ZV1 := Lib.hid ((show V1.heap[w.heap.size + 1 + 1]? = _ from hV ▸ blk_set3_ne (by omega) (.slice A1 n1 c1) (.int .i64 k) (.slice D1 m1 d1)).trans Z1.out)
    have BV1 := Lib.hid (show Below lo w V1 from hV ▸ below_out3 B1.out hlo (.slice A1 n1 c1) (.int .i64 k) (.slice D1 m1 d1))
    have KV1 := Lib.hid (show Keeps none w V1 from hV ▸ Keeps.into K1.out (below_out3 (Below.refl _ _) (Nat.le_refl _) (.slice A1 n1 c1) (.int .i64 k) (.slice D1 m1 d1)))
    rw [← hV]
    clear hV x0 x1 x2 xf
    have x0 := blk_at QV1.out (j := 0) rfl; have x1 := blk_at QV1.out (j := 1) rfl; have x2 := blk_at QV1.out (j := 2) rfl; have xf := blk_free QV1.out
    have z0 := blk_at ZV1.out (j := 0) rfl; have z1 := blk_at ZV1.out (j := 1) rfl; have z2 := blk_at ZV1.out (j := 2) rfl; have zf := blk_free ZV1.out
    go_wp2_with fail
    rw [R.out]
    refine bodyPost_ret (v := .tuple #[.agg #[.slice A1 n1 c1, .int .i64 k, .slice D1 m1 d1], .int .i64 2]) (by simp [results, Try.results57, go_sem, z0, z1, z2]) rfl ⟨A1, n1, c1, k, D1, m1, d1, rfl, (fun h => by first | (exact absurd h (by decide)) | (cases h) | (exact absurd h ‹_›)), below_out3 BV1.out (by omega) _ _ _, Keeps.into KV1.out (below_out3 (Below.refl _ _) (by omega) _ _ _)⟩
  · have HR := Lib.hid hr; clear hr
    refine (specIssueBk lo _ sA sn sc k dA dn dc ss ds ⟨id, day, 4, item, eq, ea, er⟩ W HB.out zW hss).mono ?_; simp only; rw [HR.out, show fewCode true = 0 from rfl]; rintro r w1 ⟨A1, n1, c1, D1, m1, d1, y, rfl, h1, hb1, hk1⟩
    have Q1 := Lib.hid (hk1 _ _ _ (.inr ⟨rfl, by simp⟩) Q.out); have E1 := Lib.hid (hk1 _ _ _ (.inl rfl) E.out); have Z1 := Lib.hid (hk1 _ _ _ (.inr ⟨rfl, by simp⟩) Z.out)
    have B1 := Lib.hid (B0.out.trans hb1); have K1 := Lib.hid (K0.out.trans hk1)
    obtain ⟨hc, hx1⟩ := h1 rfl
    have H1 := Lib.hid hx1
    have yb1 : 0 ≤ y := by rw [hc]; exact (issueCost_bd24 _ _).1
    have yb2 : y ≤ 24000000000 := by rw [hc]; exact (issueCost_bd24 _ _).2
    have HC := Lib.hid hc
    clear hc hx1
    clear h1 hb1 hk1
    have x0 := blk_at Q1.out (j := 0) rfl; have x1 := blk_at Q1.out (j := 1) rfl; have x2 := blk_at Q1.out (j := 2) rfl; have xf := blk_free Q1.out
    go_upto_region 38 with fail
    obtain ⟨V1, hV⟩ : ∃ V1, V1 = (((w1.setCell ⟨w.heap.size, 0, none⟩ (.slice A1 n1 c1)).setCell ⟨w.heap.size, 1, none⟩ (.int .i64 k)).setCell ⟨w.heap.size, 2, none⟩ (.slice D1 m1 d1)) := ⟨_, rfl⟩
    have QV1 := Lib.hid (show V1.heap[w.heap.size]? = _ from hV ▸ blk_set3 Q1.out (.slice A1 n1 c1) (.int .i64 k) (.slice D1 m1 d1))
    have EV1 := Lib.hid ((show V1.heap[w.heap.size + 1]? = _ from hV ▸ blk_set3_ne (by omega) (.slice A1 n1 c1) (.int .i64 k) (.slice D1 m1 d1)).trans E1.out)
    have ZV1 := Lib.hid ((show V1.heap[w.heap.size + 1 + 1]? = _ from hV ▸ blk_set3_ne (by omega) (.slice A1 n1 c1) (.int .i64 k) (.slice D1 m1 d1)).trans Z1.out)
    have BV1 := Lib.hid (show Below lo w V1 from hV ▸ below_out3 B1.out hlo (.slice A1 n1 c1) (.int .i64 k) (.slice D1 m1 d1))
    have KV1 := Lib.hid (show Keeps none w V1 from hV ▸ Keeps.into K1.out (below_out3 (Below.refl _ _) (Nat.le_refl _) (.slice A1 n1 c1) (.int .i64 k) (.slice D1 m1 d1)))
    have HV1 := Lib.hid (show BooksO V1 lo V1.heap.size _ _ _ _ _ _ from hV ▸ (BooksO.out3 H1.out Q1.out (.slice A1 n1 c1) (.int .i64 k) (.slice D1 m1 d1)).top)
    rw [← hV]
    clear hV x0 x1 x2 xf
    cases hp : bkPostOk ds day (sellE ⟨id, day, 4, item, eq, ea, er⟩ y)
    · have HP := Lib.hid hp; clear hp
      have R := Lib.hid (show (bookSell ⟨ss, k, ds⟩ ⟨id, day, 4, item, eq, ea, er⟩).1 = 3 by simp [bookSell, HR.out, ← HC.out, postB, HP.out])
      have ec := evCells (e := ⟨id, day, 4, item, eq, ea, er⟩) EV1.out; obtain ⟨y0, y1, y2, y3, y4, y5, y6⟩ := ec; simp only at y0 y1 y2 y3 y4 y5 y6; have y5a := cell_alloc y5
      have x0 := blk_at QV1.out (j := 0) rfl; have x1 := blk_at QV1.out (j := 1) rfl; have x2 := blk_at QV1.out (j := 2) rfl; have xf := blk_free QV1.out
      go_wp2_with fail
      clear x0 x1 x2 xf
      refine (specPostBk lo _ A1 n1 c1 (k) D1 m1 d1 (issSs ss item eq) ds day _ 4 4 _ 4 (sellE ⟨id, day, 4, item, eq, ea, er⟩ y) _ (HV1.out.below (below_then (below_box _ _) (below_box _ _))) (Nat.le_trans (Nat.le_trans hlo BV1.out.size) (below_then (below_box _ _) (below_box _ _)).size) OK.out hdn ((RS_new (by rfl)).alloc _) (RS_new2 (by rfl)) (by omega) (sellE_small _ _)).mono ?_; rw [HP.out, show okCode false = 3 from rfl]; rintro r w5 ⟨D5, m5, d5, rfl, h5, hb5⟩
      have b5 := Lib.hid (show Below V1.heap.size V1 w5 from below_then (below_then (below_box _ _) (below_box _ _)) hb5)
      have Q5 := Lib.hid (blk_keep b5.out QV1.out); have E5 := Lib.hid (blk_keep b5.out EV1.out); have Z5 := Lib.hid (blk_keep b5.out ZV1.out)
      have B5 := Lib.hid (BV1.out.trans (b5.out.mono (Nat.le_trans hlo BV1.out.size)))
      have K5 := Lib.hid (KV1.out.trans (Keeps.below b5.out))
      clear h5 hb5 b5 y0 y1 y2 y3 y4 y5 y5a y6
      have x0 := blk_at Q5.out (j := 0) rfl; have x1 := blk_at Q5.out (j := 1) rfl; have x2 := blk_at Q5.out (j := 2) rfl; have xf := blk_free Q5.out
      go_upto_region 40 with fail
      obtain ⟨VE, hV⟩ : ∃ VE, VE = (((w5.setCell ⟨w.heap.size, 0, none⟩ (.slice A1 n1 c1)).setCell ⟨w.heap.size, 1, none⟩ (.int .i64 k)).setCell ⟨w.heap.size, 2, none⟩ (.slice D5 m5 d5)) := ⟨_, rfl⟩
      have QVE := Lib.hid (show VE.heap[w.heap.size]? = _ from hV ▸ blk_set3 Q5.out (.slice A1 n1 c1) (.int .i64 k) (.slice D5 m5 d5))
      have EVE := Lib.hid ((show VE.heap[w.heap.size + 1]? = _ from hV ▸ blk_set3_ne (by omega) (.slice A1 n1 c1) (.int .i64 k) (.slice D5 m5 d5)).trans E5.out)
      have ZVE := Lib.hid ((show VE.heap[w.heap.size + 1 + 1]? = _ from hV ▸ blk_set3_ne (by omega) (.slice A1 n1 c1) (.int .i64 k) (.slice D5 m5 d5)).trans Z5.out)
      have BVE := Lib.hid (show Below lo w VE from hV ▸ below_out3 B5.out hlo (.slice A1 n1 c1) (.int .i64 k) (.slice D5 m5 d5))
      have KVE := Lib.hid (show Keeps none w VE from hV ▸ Keeps.into K5.out (below_out3 (Below.refl _ _) (Nat.le_refl _) (.slice A1 n1 c1) (.int .i64 k) (.slice D5 m5 d5)))
      rw [← hV]
      clear hV x0 x1 x2 xf
      have x0 := blk_at QVE.out (j := 0) rfl; have x1 := blk_at QVE.out (j := 1) rfl; have x2 := blk_at QVE.out (j := 2) rfl; have xf := blk_free QVE.out
      have z0 := blk_at ZVE.out (j := 0) rfl; have z1 := blk_at ZVE.out (j := 1) rfl; have z2 := blk_at ZVE.out (j := 2) rfl; have zf := blk_free ZVE.out
      go_wp2_with fail
      rw [R.out]
      refine bodyPost_ret (v := .tuple #[.agg #[.slice A1 n1 c1, .int .i64 k, .slice D5 m5 d5], .int .i64 3]) (by simp [results, Try.results57, go_sem, z0, z1, z2]) rfl ⟨A1, n1, c1, k, D5, m5, d5, rfl, (fun h => by first | (exact absurd h (by decide)) | (cases h) | (exact absurd h ‹_›)), below_out3 BVE.out (by omega) _ _ _, Keeps.into KVE.out (below_out3 (Below.refl _ _) (by omega) _ _ _)⟩
    · have HP := Lib.hid hp; clear hp
      have R := Lib.hid (show bookSell ⟨ss, k, ds⟩ ⟨id, day, 4, item, eq, ea, er⟩ = (0, ⟨issSs ss item eq, k, bkPostDs ds day (sellE ⟨id, day, 4, item, eq, ea, er⟩ y)⟩) by simp [bookSell, HR.out, ← HC.out, postB, HP.out])
      have ec := evCells (e := ⟨id, day, 4, item, eq, ea, er⟩) EV1.out; obtain ⟨y0, y1, y2, y3, y4, y5, y6⟩ := ec; simp only at y0 y1 y2 y3 y4 y5 y6; have y5a := cell_alloc y5
      have x0 := blk_at QV1.out (j := 0) rfl; have x1 := blk_at QV1.out (j := 1) rfl; have x2 := blk_at QV1.out (j := 2) rfl; have xf := blk_free QV1.out
      go_wp2_with fail
      clear x0 x1 x2 xf
      refine (specPostBk lo _ A1 n1 c1 (k) D1 m1 d1 (issSs ss item eq) ds day _ 4 4 _ 4 (sellE ⟨id, day, 4, item, eq, ea, er⟩ y) _ (HV1.out.below (below_then (below_box _ _) (below_box _ _))) (Nat.le_trans (Nat.le_trans hlo BV1.out.size) (below_then (below_box _ _) (below_box _ _)).size) OK.out hdn ((RS_new (by rfl)).alloc _) (RS_new2 (by rfl)) (by omega) (sellE_small _ _)).mono ?_; rw [HP.out, show okCode true = 0 from rfl]; rintro r w5 ⟨D5, m5, d5, rfl, h5, hb5⟩
      have b5 := Lib.hid (show Below V1.heap.size V1 w5 from below_then (below_then (below_box _ _) (below_box _ _)) hb5)
      have Q5 := Lib.hid (blk_keep b5.out QV1.out); have E5 := Lib.hid (blk_keep b5.out EV1.out); have Z5 := Lib.hid (blk_keep b5.out ZV1.out)
      have B5 := Lib.hid (BV1.out.trans (b5.out.mono (Nat.le_trans hlo BV1.out.size)))
      have K5 := Lib.hid (KV1.out.trans (Keeps.below b5.out))
      have H5 := Lib.hid (h5 rfl)
      clear h5 hb5 b5 y0 y1 y2 y3 y4 y5 y5a y6
      have x0 := blk_at Q5.out (j := 0) rfl; have x1 := blk_at Q5.out (j := 1) rfl; have x2 := blk_at Q5.out (j := 2) rfl; have xf := blk_free Q5.out
      go_upto_region 40 with fail
      obtain ⟨VE, hV⟩ : ∃ VE, VE = (((w5.setCell ⟨w.heap.size, 0, none⟩ (.slice A1 n1 c1)).setCell ⟨w.heap.size, 1, none⟩ (.int .i64 k)).setCell ⟨w.heap.size, 2, none⟩ (.slice D5 m5 d5)) := ⟨_, rfl⟩
      have QVE := Lib.hid (show VE.heap[w.heap.size]? = _ from hV ▸ blk_set3 Q5.out (.slice A1 n1 c1) (.int .i64 k) (.slice D5 m5 d5))
      have EVE := Lib.hid ((show VE.heap[w.heap.size + 1]? = _ from hV ▸ blk_set3_ne (by omega) (.slice A1 n1 c1) (.int .i64 k) (.slice D5 m5 d5)).trans E5.out)
      have ZVE := Lib.hid ((show VE.heap[w.heap.size + 1 + 1]? = _ from hV ▸ blk_set3_ne (by omega) (.slice A1 n1 c1) (.int .i64 k) (.slice D5 m5 d5)).trans Z5.out)
      have BVE := Lib.hid (show Below lo w VE from hV ▸ below_out3 B5.out hlo (.slice A1 n1 c1) (.int .i64 k) (.slice D5 m5 d5))
      have KVE := Lib.hid (show Keeps none w VE from hV ▸ Keeps.into K5.out (below_out3 (Below.refl _ _) (Nat.le_refl _) (.slice A1 n1 c1) (.int .i64 k) (.slice D5 m5 d5)))
      have HVE := Lib.hid (show BooksO VE lo VE.heap.size _ _ _ _ _ _ from hV ▸ (BooksO.out3 H5.out Q5.out (.slice A1 n1 c1) (.int .i64 k) (.slice D5 m5 d5)).top)
      rw [← hV]
      clear hV x0 x1 x2 xf
      have x0 := blk_at QVE.out (j := 0) rfl; have x1 := blk_at QVE.out (j := 1) rfl; have x2 := blk_at QVE.out (j := 2) rfl; have xf := blk_free QVE.out
      have z0 := blk_at ZVE.out (j := 0) rfl; have z1 := blk_at ZVE.out (j := 1) rfl; have z2 := blk_at ZVE.out (j := 2) rfl; have zf := blk_free ZVE.out
      go_wp2_with fail
      rw [R.out]
      refine bodyPost_ret (v := .tuple #[.agg #[.slice A1 n1 c1, .int .i64 k, .slice D5 m5 d5], .int .i64 0]) (by simp [results, Try.results57, go_sem, z0, z1, z2]) rfl ⟨A1, n1, c1, k, D5, m5, d5, rfl, fun _ => ⟨rfl, (BooksO.out3 HVE.out ZVE.out _ _ _).top⟩, below_out3 BVE.out (by omega) _ _ _, Keeps.into KVE.out (below_out3 (Below.refl _ _) (by omega) _ _ _)⟩
set_option maxRecDepth 100000 in
set_option maxHeartbeats 8000000 in
theorem specBookIss (lo hi2 : Nat) (sA : Option Addr) (sn sc : Nat) (dA : Option Addr) (dn dc : Nat) (b : Bk) (e : Ev) (w : World) (hbk : BooksO w lo hi2 (.slice sA sn sc) sn b.ss (.slice dA dn dc) dn b.ds) (hlo : lo ≤ w.heap.size) (hss : shsOk b.ss = true) (hok : docsSmall b.ds) (hdn : b.ds.length ≤ 1048576) (hwk : 0 ≤ b.k ∧ b.k ≤ 1000000000) (hk : e.kind = 2) (ha : e.a = 0) :
    Calls Try.prog 57 #[.agg #[.slice sA sn sc, .int .i64 b.k, .slice dA dn dc], evAgg e] w fun r w' => ∃ A n c kk D m d, r = .returned (.tuple #[.agg #[.slice A n c, .int .i64 kk, .slice D m d], .int .i64 (bookIss b e).1]) ∧
      ((bookIss b e).1 = 0 → kk = (bookIss b e).2.k ∧ BooksO w' lo w'.heap.size (.slice A n c) n (bookIss b e).2.ss (.slice D m d) m (bookIss b e).2.ds) ∧ Below lo w w' ∧ Keeps none w w' := by
  obtain ⟨ss, k, ds⟩ := b
  simp only at hbk hss hok hdn hwk ⊢
  obtain ⟨hwk1, hwk2⟩ := hwk
  obtain ⟨id, day, kind, item, eq, ea, er⟩ := e
  simp only at hk ha
  subst hk
  have b0 := Lib.hid (below_then (below_then (below_box w (Obj.cells #[.slice sA sn sc, .int .i64 k, .slice dA dn dc] 31)) (below_box _ (Obj.cells #[.int .i64 id, .int .i64 day, .int .i64 2, .string item, .int .i64 eq, .int .i64 ea, .int .i64 er] 44))) (below_box _ (Obj.cells #[.slice none 0 0, .int .i64 0, .slice none 0 0] 31)))
  have Q := Lib.hid (blk_alloc (blk_alloc (blk_new1 w (Obj.cells #[.slice sA sn sc, .int .i64 k, .slice dA dn dc] 31)) (Obj.cells #[.int .i64 id, .int .i64 day, .int .i64 2, .string item, .int .i64 eq, .int .i64 ea, .int .i64 er] 44)) (Obj.cells #[.slice none 0 0, .int .i64 0, .slice none 0 0] 31))
  have E := Lib.hid (blk_alloc (blk_new2 w (Obj.cells #[.slice sA sn sc, .int .i64 k, .slice dA dn dc] 31) (Obj.cells #[.int .i64 id, .int .i64 day, .int .i64 2, .string item, .int .i64 eq, .int .i64 ea, .int .i64 er] 44)) (Obj.cells #[.slice none 0 0, .int .i64 0, .slice none 0 0] 31))
  have Z := Lib.hid (blk_new3 w (Obj.cells #[.slice sA sn sc, .int .i64 k, .slice dA dn dc] 31) (Obj.cells #[.int .i64 id, .int .i64 day, .int .i64 2, .string item, .int .i64 eq, .int .i64 ea, .int .i64 er] 44) (Obj.cells #[.slice none 0 0, .int .i64 0, .slice none 0 0] 31))
  have HB := Lib.hid (hbk.below b0.out).top
  have OK := Lib.hid hok
  have B0 := Lib.hid (b0.out.mono hlo)
  have K0 := Lib.hid (Keeps.below (q := none) b0.out)
  have hW0 : ∃ W, W = (((w.alloc (Obj.cells #[.slice sA sn sc, .int .i64 k, .slice dA dn dc] 31)).alloc (Obj.cells #[.int .i64 id, .int .i64 day, .int .i64 2, .string item, .int .i64 eq, .int .i64 ea, .int .i64 er] 44)).alloc (Obj.cells #[.slice none 0 0, .int .i64 0, .slice none 0 0] 31)) := ⟨_, rfl⟩
  obtain ⟨W, hW⟩ := hW0
  rw [← hW] at b0 Q E Z HB B0 K0
  have zW : lo ≤ W.heap.size := Nat.le_trans hlo B0.out.size
  clear hbk hok b0
  clear ha
  go_enter Try.func57, Try.ntmps57
  go_wp2_with fail
  rw [← hW]
  clear hW
  cases hr : issOk ss item eq
  · have HR := Lib.hid hr; clear hr
    have R := Lib.hid (show (bookIss ⟨ss, k, ds⟩ ⟨id, day, 2, item, eq, ea, er⟩).1 = 2 by simp [bookIss, HR.out])
    refine (specIssueBk lo _ sA sn sc k dA dn dc ss ds ⟨id, day, 2, item, eq, ea, er⟩ W HB.out zW hss).mono ?_; simp only; rw [HR.out, show fewCode false = 2 from rfl]; rintro r w1 ⟨A1, n1, c1, D1, m1, d1, y, rfl, h1, hb1, hk1⟩
    have Q1 := Lib.hid (hk1 _ _ _ (.inr ⟨rfl, by simp⟩) Q.out); have E1 := Lib.hid (hk1 _ _ _ (.inl rfl) E.out); have Z1 := Lib.hid (hk1 _ _ _ (.inr ⟨rfl, by simp⟩) Z.out)
    have B1 := Lib.hid (B0.out.trans hb1); have K1 := Lib.hid (K0.out.trans hk1)
    clear h1 hb1 hk1
    have x0 := blk_at Q1.out (j := 0) rfl; have x1 := blk_at Q1.out (j := 1) rfl; have x2 := blk_at Q1.out (j := 2) rfl; have xf := blk_free Q1.out
    go_upto_region 31 with fail
    obtain ⟨V1, hV⟩ : ∃ V1, V1 = (((w1.setCell ⟨w.heap.size, 0, none⟩ (.slice A1 n1 c1)).setCell ⟨w.heap.size, 1, none⟩ (.int .i64 k)).setCell ⟨w.heap.size, 2, none⟩ (.slice D1 m1 d1)) := ⟨_, rfl⟩
    have QV1 := Lib.hid (show V1.heap[w.heap.size]? = _ from hV ▸ blk_set3 Q1.out (.slice A1 n1 c1) (.int .i64 k) (.slice D1 m1 d1))
    have EV1 := Lib.hid ((show V1.heap[w.heap.size + 1]? = _ from hV ▸ blk_set3_ne (by omega) (.slice A1 n1 c1) (.int .i64 k) (.slice D1 m1 d1)).trans E1.out)
    have ZV1 := Lib.hid ((show V1.heap[w.heap.size + 1 + 1]? = _ from hV ▸ blk_set3_ne (by omega) (.slice A1 n1 c1) (.int .i64 k) (.slice D1 m1 d1)).trans Z1.out)
    have BV1 := Lib.hid (show Below lo w V1 from hV ▸ below_out3 B1.out hlo (.slice A1 n1 c1) (.int .i64 k) (.slice D1 m1 d1))
    have KV1 := Lib.hid (show Keeps none w V1 from hV ▸ Keeps.into K1.out (below_out3 (Below.refl _ _) (Nat.le_refl _) (.slice A1 n1 c1) (.int .i64 k) (.slice D1 m1 d1)))
    rw [← hV]
    clear hV x0 x1 x2 xf
    have x0 := blk_at QV1.out (j := 0) rfl; have x1 := blk_at QV1.out (j := 1) rfl; have x2 := blk_at QV1.out (j := 2) rfl; have xf := blk_free QV1.out
    have z0 := blk_at ZV1.out (j := 0) rfl; have z1 := blk_at ZV1.out (j := 1) rfl; have z2 := blk_at ZV1.out (j := 2) rfl; have zf := blk_free ZV1.out
    go_wp2_with fail
    rw [R.out]
    refine bodyPost_ret (v := .tuple #[.agg #[.slice A1 n1 c1, .int .i64 k, .slice D1 m1 d1], .int .i64 2]) (by simp [results, Try.results57, go_sem, z0, z1, z2]) rfl ⟨A1, n1, c1, k, D1, m1, d1, rfl, (fun h => by first | (exact absurd h (by decide)) | (cases h) | (exact absurd h ‹_›)), below_out3 BV1.out (by omega) _ _ _, Keeps.into KV1.out (below_out3 (Below.refl _ _) (by omega) _ _ _)⟩
  · have HR := Lib.hid hr; clear hr
    refine (specIssueBk lo _ sA sn sc k dA dn dc ss ds ⟨id, day, 2, item, eq, ea, er⟩ W HB.out zW hss).mono ?_; simp only; rw [HR.out, show fewCode true = 0 from rfl]; rintro r w1 ⟨A1, n1, c1, D1, m1, d1, y, rfl, h1, hb1, hk1⟩
    have Q1 := Lib.hid (hk1 _ _ _ (.inr ⟨rfl, by simp⟩) Q.out); have E1 := Lib.hid (hk1 _ _ _ (.inl rfl) E.out); have Z1 := Lib.hid (hk1 _ _ _ (.inr ⟨rfl, by simp⟩) Z.out)
    have B1 := Lib.hid (B0.out.trans hb1); have K1 := Lib.hid (K0.out.trans hk1)
    obtain ⟨hc, hx1⟩ := h1 rfl
    have H1 := Lib.hid hx1
    have yb1 : 0 ≤ y := by rw [hc]; exact (issueCost_bd24 _ _).1
    have yb2 : y ≤ 24000000000 := by rw [hc]; exact (issueCost_bd24 _ _).2
    have HC := Lib.hid hc
    clear hc hx1
    clear h1 hb1 hk1
    have x0 := blk_at Q1.out (j := 0) rfl; have x1 := blk_at Q1.out (j := 1) rfl; have x2 := blk_at Q1.out (j := 2) rfl; have xf := blk_free Q1.out
    go_upto_region 31 with fail
    obtain ⟨V1, hV⟩ : ∃ V1, V1 = (((w1.setCell ⟨w.heap.size, 0, none⟩ (.slice A1 n1 c1)).setCell ⟨w.heap.size, 1, none⟩ (.int .i64 k)).setCell ⟨w.heap.size, 2, none⟩ (.slice D1 m1 d1)) := ⟨_, rfl⟩
    have QV1 := Lib.hid (show V1.heap[w.heap.size]? = _ from hV ▸ blk_set3 Q1.out (.slice A1 n1 c1) (.int .i64 k) (.slice D1 m1 d1))
    have EV1 := Lib.hid ((show V1.heap[w.heap.size + 1]? = _ from hV ▸ blk_set3_ne (by omega) (.slice A1 n1 c1) (.int .i64 k) (.slice D1 m1 d1)).trans E1.out)
    have ZV1 := Lib.hid ((show V1.heap[w.heap.size + 1 + 1]? = _ from hV ▸ blk_set3_ne (by omega) (.slice A1 n1 c1) (.int .i64 k) (.slice D1 m1 d1)).trans Z1.out)
    have BV1 := Lib.hid (show Below lo w V1 from hV ▸ below_out3 B1.out hlo (.slice A1 n1 c1) (.int .i64 k) (.slice D1 m1 d1))
    have KV1 := Lib.hid (show Keeps none w V1 from hV ▸ Keeps.into K1.out (below_out3 (Below.refl _ _) (Nat.le_refl _) (.slice A1 n1 c1) (.int .i64 k) (.slice D1 m1 d1)))
    have HV1 := Lib.hid (show BooksO V1 lo V1.heap.size _ _ _ _ _ _ from hV ▸ (BooksO.out3 H1.out Q1.out (.slice A1 n1 c1) (.int .i64 k) (.slice D1 m1 d1)).top)
    rw [← hV]
    clear hV x0 x1 x2 xf
    have wk : IntKind.i64.wrap (k + y) = k + y := IntWalk.i64_in _ (by omega)
    have ec := evCells (e := ⟨id, day, 2, item, eq, ea, er⟩) EV1.out; obtain ⟨y0, y1, y2, y3, y4, y5, y6⟩ := ec; simp only at y0 y1 y2 y3 y4 y5 y6; have y5a := cell_alloc y5
    have x0 := blk_at QV1.out (j := 0) rfl; have x1 := blk_at QV1.out (j := 1) rfl; have x2 := blk_at QV1.out (j := 2) rfl; have xf := blk_free QV1.out
    go_upto_region 33 with fail
    clear x0 x1 x2 xf y0 y1 y2 y3 y4 y5 y5a y6
    obtain ⟨V2, hV⟩ : ∃ V2, V2 = V1.setCell ⟨w.heap.size, 1, none⟩ (.int .i64 (k + y)) := ⟨_, rfl⟩
    have QV2 := Lib.hid (show V2.heap[w.heap.size]? = some (.cells #[.slice A1 n1 c1, .int .i64 (k + y), .slice D1 m1 d1] 31 (0, 0)) by rw [hV]; exact heap_setCell_same V1 w.heap.size 1 _ _ (.int .i64 (k + y)) QV1.out)
    have EV2 := Lib.hid ((show V2.heap[w.heap.size + 1]? = _ by rw [hV]; exact Below.heap_setCell _ _ _ _ (Nat.succ_ne_self _)).trans EV1.out)
    have ZV2 := Lib.hid ((show V2.heap[w.heap.size + 1 + 1]? = V1.heap[w.heap.size + 1 + 1]? by rw [hV]; exact Below.heap_setCell _ _ _ _ (by simp only; omega)).trans ZV1.out)
    have BV2 := Lib.hid (show Below lo w V2 by rw [hV]; exact BV1.out.setCell (p := ⟨w.heap.size, 1, none⟩) hlo (.int .i64 (k + y)))
    have KV2 := Lib.hid (show Keeps none w V2 by rw [hV]; exact Keeps.into KV1.out ((Below.refl _ _).setCell (p := ⟨w.heap.size, 1, none⟩) (Nat.le_refl _) (.int .i64 (k + y))))
    have HV2 := Lib.hid (show BooksO V2 lo V2.heap.size _ _ _ _ _ _ by rw [hV]; exact (HV1.out.setq (j := 1) (u := .int .i64 (k + y)) QV1.out rfl).top)
    rw [← hV]
    clear hV
    cases hp : bkPostOk ds day (issE y)
    · have HP := Lib.hid hp; clear hp
      have R := Lib.hid (show (bookIss ⟨ss, k, ds⟩ ⟨id, day, 2, item, eq, ea, er⟩).1 = 3 by
        simp only [bookIss, HR.out, ← HC.out, if_true]
        split
        · rfl
        · simp [postB, HP.out])
      have ec := evCells (e := ⟨id, day, 2, item, eq, ea, er⟩) EV2.out; obtain ⟨y0, y1, y2, y3, y4, y5, y6⟩ := ec; simp only at y0 y1 y2 y3 y4 y5 y6; have y5a := cell_alloc y5
      have x0 := blk_at QV2.out (j := 0) rfl; have x1 := blk_at QV2.out (j := 1) rfl; have x2 := blk_at QV2.out (j := 2) rfl; have xf := blk_free QV2.out
      go_wp2_with fail
      clear x0 x1 x2 xf
      refine (specPostBk lo _ A1 n1 c1 (k + y) D1 m1 d1 (issSs ss item eq) ds day _ 2 2 _ 2 (issE y) _ (HV2.out.below (below_then (below_box _ _) (below_box _ _))) (Nat.le_trans (Nat.le_trans hlo BV2.out.size) (below_then (below_box _ _) (below_box _ _)).size) OK.out hdn ((RS_new (by rfl)).alloc _) (RS_new2 (by rfl)) (by omega) (issE_small _)).mono ?_; rw [HP.out, show okCode false = 3 from rfl]; rintro r w5 ⟨D5, m5, d5, rfl, h5, hb5⟩
      have b5 := Lib.hid (show Below V2.heap.size V2 w5 from below_then (below_then (below_box _ _) (below_box _ _)) hb5)
      have Q5 := Lib.hid (blk_keep b5.out QV2.out); have E5 := Lib.hid (blk_keep b5.out EV2.out); have Z5 := Lib.hid (blk_keep b5.out ZV2.out)
      have B5 := Lib.hid (BV2.out.trans (b5.out.mono (Nat.le_trans hlo BV2.out.size)))
      have K5 := Lib.hid (KV2.out.trans (Keeps.below b5.out))
      clear h5 hb5 b5 y0 y1 y2 y3 y4 y5 y5a y6
      have x0 := blk_at Q5.out (j := 0) rfl; have x1 := blk_at Q5.out (j := 1) rfl; have x2 := blk_at Q5.out (j := 2) rfl; have xf := blk_free Q5.out
      go_upto_region 34 with fail
      obtain ⟨VE, hV⟩ : ∃ VE, VE = (((w5.setCell ⟨w.heap.size, 0, none⟩ (.slice A1 n1 c1)).setCell ⟨w.heap.size, 1, none⟩ (.int .i64 (k + y))).setCell ⟨w.heap.size, 2, none⟩ (.slice D5 m5 d5)) := ⟨_, rfl⟩
      have QVE := Lib.hid (show VE.heap[w.heap.size]? = _ from hV ▸ blk_set3 Q5.out (.slice A1 n1 c1) (.int .i64 (k + y)) (.slice D5 m5 d5))
      have EVE := Lib.hid ((show VE.heap[w.heap.size + 1]? = _ from hV ▸ blk_set3_ne (by omega) (.slice A1 n1 c1) (.int .i64 (k + y)) (.slice D5 m5 d5)).trans E5.out)
      have ZVE := Lib.hid ((show VE.heap[w.heap.size + 1 + 1]? = _ from hV ▸ blk_set3_ne (by omega) (.slice A1 n1 c1) (.int .i64 (k + y)) (.slice D5 m5 d5)).trans Z5.out)
      have BVE := Lib.hid (show Below lo w VE from hV ▸ below_out3 B5.out hlo (.slice A1 n1 c1) (.int .i64 (k + y)) (.slice D5 m5 d5))
      have KVE := Lib.hid (show Keeps none w VE from hV ▸ Keeps.into K5.out (below_out3 (Below.refl _ _) (Nat.le_refl _) (.slice A1 n1 c1) (.int .i64 (k + y)) (.slice D5 m5 d5)))
      rw [← hV]
      clear hV x0 x1 x2 xf
      have x0 := blk_at QVE.out (j := 0) rfl; have x1 := blk_at QVE.out (j := 1) rfl; have x2 := blk_at QVE.out (j := 2) rfl; have xf := blk_free QVE.out
      have z0 := blk_at ZVE.out (j := 0) rfl; have z1 := blk_at ZVE.out (j := 1) rfl; have z2 := blk_at ZVE.out (j := 2) rfl; have zf := blk_free ZVE.out
      go_wp2_with fail
      rw [R.out]
      refine bodyPost_ret (v := .tuple #[.agg #[.slice A1 n1 c1, .int .i64 (k + y), .slice D5 m5 d5], .int .i64 3]) (by simp [results, Try.results57, go_sem, z0, z1, z2]) rfl ⟨A1, n1, c1, (k + y), D5, m5, d5, rfl, (fun h => by first | (exact absurd h (by decide)) | (cases h) | (exact absurd h ‹_›)), below_out3 BVE.out (by omega) _ _ _, Keeps.into KVE.out (below_out3 (Below.refl _ _) (by omega) _ _ _)⟩
    · have HP := Lib.hid hp; clear hp
      have ec := evCells (e := ⟨id, day, 2, item, eq, ea, er⟩) EV2.out; obtain ⟨y0, y1, y2, y3, y4, y5, y6⟩ := ec; simp only at y0 y1 y2 y3 y4 y5 y6; have y5a := cell_alloc y5
      have x0 := blk_at QV2.out (j := 0) rfl; have x1 := blk_at QV2.out (j := 1) rfl; have x2 := blk_at QV2.out (j := 2) rfl; have xf := blk_free QV2.out
      go_wp2_with fail
      clear x0 x1 x2 xf
      refine (specPostBk lo _ A1 n1 c1 (k + y) D1 m1 d1 (issSs ss item eq) ds day _ 2 2 _ 2 (issE y) _ (HV2.out.below (below_then (below_box _ _) (below_box _ _))) (Nat.le_trans (Nat.le_trans hlo BV2.out.size) (below_then (below_box _ _) (below_box _ _)).size) OK.out hdn ((RS_new (by rfl)).alloc _) (RS_new2 (by rfl)) (by omega) (issE_small _)).mono ?_; rw [HP.out, show okCode true = 0 from rfl]; rintro r w5 ⟨D5, m5, d5, rfl, h5, hb5⟩
      have b5 := Lib.hid (show Below V2.heap.size V2 w5 from below_then (below_then (below_box _ _) (below_box _ _)) hb5)
      have Q5 := Lib.hid (blk_keep b5.out QV2.out); have E5 := Lib.hid (blk_keep b5.out EV2.out); have Z5 := Lib.hid (blk_keep b5.out ZV2.out)
      have B5 := Lib.hid (BV2.out.trans (b5.out.mono (Nat.le_trans hlo BV2.out.size)))
      have K5 := Lib.hid (KV2.out.trans (Keeps.below b5.out))
      have H5 := Lib.hid (h5 rfl)
      clear h5 hb5 b5 y0 y1 y2 y3 y4 y5 y5a y6
      have x0 := blk_at Q5.out (j := 0) rfl; have x1 := blk_at Q5.out (j := 1) rfl; have x2 := blk_at Q5.out (j := 2) rfl; have xf := blk_free Q5.out
      go_upto_region 34 with fail
      obtain ⟨VE, hV⟩ : ∃ VE, VE = (((w5.setCell ⟨w.heap.size, 0, none⟩ (.slice A1 n1 c1)).setCell ⟨w.heap.size, 1, none⟩ (.int .i64 (k + y))).setCell ⟨w.heap.size, 2, none⟩ (.slice D5 m5 d5)) := ⟨_, rfl⟩
      have QVE := Lib.hid (show VE.heap[w.heap.size]? = _ from hV ▸ blk_set3 Q5.out (.slice A1 n1 c1) (.int .i64 (k + y)) (.slice D5 m5 d5))
      have EVE := Lib.hid ((show VE.heap[w.heap.size + 1]? = _ from hV ▸ blk_set3_ne (by omega) (.slice A1 n1 c1) (.int .i64 (k + y)) (.slice D5 m5 d5)).trans E5.out)
      have ZVE := Lib.hid ((show VE.heap[w.heap.size + 1 + 1]? = _ from hV ▸ blk_set3_ne (by omega) (.slice A1 n1 c1) (.int .i64 (k + y)) (.slice D5 m5 d5)).trans Z5.out)
      have BVE := Lib.hid (show Below lo w VE from hV ▸ below_out3 B5.out hlo (.slice A1 n1 c1) (.int .i64 (k + y)) (.slice D5 m5 d5))
      have KVE := Lib.hid (show Keeps none w VE from hV ▸ Keeps.into K5.out (below_out3 (Below.refl _ _) (Nat.le_refl _) (.slice A1 n1 c1) (.int .i64 (k + y)) (.slice D5 m5 d5)))
      have HVE := Lib.hid (show BooksO VE lo VE.heap.size _ _ _ _ _ _ from hV ▸ (BooksO.out3 H5.out Q5.out (.slice A1 n1 c1) (.int .i64 (k + y)) (.slice D5 m5 d5)).top)
      rw [← hV]
      clear hV x0 x1 x2 xf
      by_cases hmx : (1000000000 : Int) < k + y
      · have R := Lib.hid (show (bookIss ⟨ss, k, ds⟩ ⟨id, day, 2, item, eq, ea, er⟩).1 = 3 by
          simp only [bookIss, HR.out, ← HC.out, if_true]
          rw [if_pos hmx])
        have x0 := blk_at QVE.out (j := 0) rfl; have x1 := blk_at QVE.out (j := 1) rfl; have x2 := blk_at QVE.out (j := 2) rfl; have xf := blk_free QVE.out
        have z0 := blk_at ZVE.out (j := 0) rfl; have z1 := blk_at ZVE.out (j := 1) rfl; have z2 := blk_at ZVE.out (j := 2) rfl; have zf := blk_free ZVE.out
        go_wp2_with fail
        rw [R.out]
        refine bodyPost_ret (v := .tuple #[.agg #[.slice A1 n1 c1, .int .i64 (k + y), .slice D5 m5 d5], .int .i64 3]) (by simp [results, Try.results57, go_sem, z0, z1, z2]) rfl ⟨A1, n1, c1, (k + y), D5, m5, d5, rfl, (fun h => by first | (exact absurd h (by decide)) | (cases h) | (exact absurd h ‹_›)), below_out3 BVE.out (by omega) _ _ _, Keeps.into KVE.out (below_out3 (Below.refl _ _) (by omega) _ _ _)⟩
      · have R := Lib.hid (show (bookIss ⟨ss, k, ds⟩ ⟨id, day, 2, item, eq, ea, er⟩) = (0, ⟨issSs ss item eq, k + y, bkPostDs ds day (issE y)⟩) by
          simp only [bookIss, HR.out, ← HC.out, if_true]
          rw [if_neg hmx]
          simp [postB, HP.out])
        have x0 := blk_at QVE.out (j := 0) rfl; have x1 := blk_at QVE.out (j := 1) rfl; have x2 := blk_at QVE.out (j := 2) rfl; have xf := blk_free QVE.out
        have z0 := blk_at ZVE.out (j := 0) rfl; have z1 := blk_at ZVE.out (j := 1) rfl; have z2 := blk_at ZVE.out (j := 2) rfl; have zf := blk_free ZVE.out
        go_wp2_with fail
        rw [R.out]
        refine bodyPost_ret (v := .tuple #[.agg #[.slice A1 n1 c1, .int .i64 (k + y), .slice D5 m5 d5], .int .i64 0]) (by simp [results, Try.results57, go_sem, z0, z1, z2]) rfl ⟨A1, n1, c1, (k + y), D5, m5, d5, rfl, fun _ => ⟨rfl, (BooksO.out3 HVE.out ZVE.out _ _ _).top⟩, below_out3 BVE.out (by omega) _ _ _, Keeps.into KVE.out (below_out3 (Below.refl _ _) (by omega) _ _ _)⟩
set_option maxRecDepth 100000 in
set_option maxHeartbeats 8000000 in
theorem specBookLate (lo hi2 : Nat) (sA : Option Addr) (sn sc : Nat) (dA : Option Addr) (dn dc : Nat) (b : Bk) (e : Ev) (w : World) (hbk : BooksO w lo hi2 (.slice sA sn sc) sn b.ss (.slice dA dn dc) dn b.ds) (hlo : lo ≤ w.heap.size) (hss : shsOk b.ss = true) (hok : docsSmall b.ds) (hdn : b.ds.length ≤ 1048576) (hwk : 0 ≤ b.k ∧ b.k ≤ 1000000000) (hk : e.kind = 5) (ha1 : -100000 ≤ e.a) (ha2 : e.a ≤ 100000) :
    Calls Try.prog 57 #[.agg #[.slice sA sn sc, .int .i64 b.k, .slice dA dn dc], evAgg e] w fun r w' => ∃ A n c kk D m d, r = .returned (.tuple #[.agg #[.slice A n c, .int .i64 kk, .slice D m d], .int .i64 (bookLate b e).1]) ∧
      ((bookLate b e).1 = 0 → kk = (bookLate b e).2.k ∧ BooksO w' lo w'.heap.size (.slice A n c) n (bookLate b e).2.ss (.slice D m d) m (bookLate b e).2.ds) ∧ Below lo w w' ∧ Keeps none w w' := by
  obtain ⟨ss, k, ds⟩ := b
  simp only at hbk hss hok hdn hwk ⊢
  obtain ⟨hwk1, hwk2⟩ := hwk
  obtain ⟨id, day, kind, item, eq, ea, er⟩ := e
  simp only at hk ha1 ha2
  subst hk
  have b0 := Lib.hid (below_then (below_then (below_box w (Obj.cells #[.slice sA sn sc, .int .i64 k, .slice dA dn dc] 31)) (below_box _ (Obj.cells #[.int .i64 id, .int .i64 day, .int .i64 5, .string item, .int .i64 eq, .int .i64 ea, .int .i64 er] 44))) (below_box _ (Obj.cells #[.slice none 0 0, .int .i64 0, .slice none 0 0] 31)))
  have Q := Lib.hid (blk_alloc (blk_alloc (blk_new1 w (Obj.cells #[.slice sA sn sc, .int .i64 k, .slice dA dn dc] 31)) (Obj.cells #[.int .i64 id, .int .i64 day, .int .i64 5, .string item, .int .i64 eq, .int .i64 ea, .int .i64 er] 44)) (Obj.cells #[.slice none 0 0, .int .i64 0, .slice none 0 0] 31))
  have E := Lib.hid (blk_alloc (blk_new2 w (Obj.cells #[.slice sA sn sc, .int .i64 k, .slice dA dn dc] 31) (Obj.cells #[.int .i64 id, .int .i64 day, .int .i64 5, .string item, .int .i64 eq, .int .i64 ea, .int .i64 er] 44)) (Obj.cells #[.slice none 0 0, .int .i64 0, .slice none 0 0] 31))
  have Z := Lib.hid (blk_new3 w (Obj.cells #[.slice sA sn sc, .int .i64 k, .slice dA dn dc] 31) (Obj.cells #[.int .i64 id, .int .i64 day, .int .i64 5, .string item, .int .i64 eq, .int .i64 ea, .int .i64 er] 44) (Obj.cells #[.slice none 0 0, .int .i64 0, .slice none 0 0] 31))
  have HB := Lib.hid (hbk.below b0.out).top
  have OK := Lib.hid hok
  have B0 := Lib.hid (b0.out.mono hlo)
  have K0 := Lib.hid (Keeps.below (q := none) b0.out)
  have hW0 : ∃ W, W = (((w.alloc (Obj.cells #[.slice sA sn sc, .int .i64 k, .slice dA dn dc] 31)).alloc (Obj.cells #[.int .i64 id, .int .i64 day, .int .i64 5, .string item, .int .i64 eq, .int .i64 ea, .int .i64 er] 44)).alloc (Obj.cells #[.slice none 0 0, .int .i64 0, .slice none 0 0] 31)) := ⟨_, rfl⟩
  obtain ⟨W, hW⟩ := hW0
  rw [← hW] at b0 Q E Z HB B0 K0
  have zW : lo ≤ W.heap.size := Nat.le_trans hlo B0.out.size
  clear hbk hok b0
  have n12 : sn ≤ 12 := by rw [← HB.out.shelves.len]; exact shsOk_len hss
  have SG := Lib.hid (shGood_lays hss item)
  have ec := evCells (e := ⟨id, day, 5, item, eq, ea, er⟩) E.out; obtain ⟨y0, y1, y2, y3, y4, y5, y6⟩ := ec; simp only at y0 y1 y2 y3 y4 y5 y6; have y5a := cell_alloc y5
  have x0 := blk_at Q.out (j := 0) rfl; have x1 := blk_at Q.out (j := 1) rfl; have x2 := blk_at Q.out (j := 2) rfl; have xf := blk_free Q.out
  go_enter Try.func57, Try.ntmps57
  go_wp2_with fail
  rw [← hW]
  clear hW x0 x1 x2 xf y0 y1 y2 y3 y4 y5 y5a y6
  refine (specShelfOf _ _ _ _ _ _ _ ss _ W HB.out.shelves (by omega)).mono ?_; rintro e' V ⟨rfl, B1⟩
  have QV := Lib.hid (blk_keep B1 Q.out); have EV := Lib.hid (blk_keep B1 E.out); have ZV := Lib.hid (blk_keep B1 Z.out)
  have HV := Lib.hid (HB.out.below B1).top
  have BV := Lib.hid (B0.out.trans (B1.mono zW)); have KV := Lib.hid (K0.out.trans (Keeps.below B1))
  clear B1 E Q Z HB B0 K0
  have zV : lo ≤ V.heap.size := Nat.le_trans hlo BV.out.size
  rcases shelfAt_cases ss item with ⟨h0, _⟩ | ⟨p, x, h0, hx, he, _⟩
  · have RL := late_none h0 er ea
    have R := Lib.hid (show (bookLate ⟨ss, k, ds⟩ ⟨id, day, 5, item, eq, ea, er⟩).1 = 4 by simp [bookLate, RL])
    clear RL
    rw [h0]
    clear h0
    go_wp2_with fail
    refine wp_loop_once ?_
    have x0 := blk_at QV.out (j := 0) rfl; have x1 := blk_at QV.out (j := 1) rfl; have x2 := blk_at QV.out (j := 2) rfl; have xf := blk_free QV.out
    have z0 := blk_at ZV.out (j := 0) rfl; have z1 := blk_at ZV.out (j := 1) rfl; have z2 := blk_at ZV.out (j := 2) rfl; have zf := blk_free ZV.out
    go_wp2_with fail
    rw [R.out]
    refine bodyPost_ret (v := .tuple #[.agg #[.slice sA sn sc, .int .i64 k, .slice dA dn dc], .int .i64 4]) (by simp [results, Try.results57, go_sem, z0, z1, z2]) rfl ⟨sA, sn, sc, k, dA, dn, dc, rfl, (fun h => by first | (exact absurd h (by decide)) | (cases h) | (exact absurd h ‹_›)), below_out3 BV.out (by omega) _ _ _, Keeps.into KV.out (below_out3 (Below.refl _ _) (by omega) _ _ _)⟩
  · have hpm : p < sn := by rw [← HV.out.shelves.len]; exact (List.getElem?_eq_some_iff.1 hx).1
    have SP := shGet_at h0 hx
    have IX := Lib.hid (late_at h0 hx er)
    have RK := Lib.hid (show lateCode ss item er ea = if lastTo x.ids er x.ids.length < 0 then 4 else if lateOk x.lays (lastTo x.ids er x.ids.length) ea then 0 else 2 by rw [lateCode, IX.out, SP])
    have RC := Lib.hid (show lateCost ss item er ea = lateGone x.lays (lastTo x.ids er x.ids.length) ea by rw [lateCost, IX.out, SP])
    have RSS := Lib.hid (show lateSs ss item er ea = ss.set p ⟨x.item, x.ids, lateOut x.lays (lastTo x.ids er x.ids.length) ea⟩ by rw [lateSs, IX.out, SP, h0, ← he]; rfl)
    have HX := Lib.hid hx
    obtain ⟨sg1, sg2⟩ := SG.out
    rw [SP] at sg1 sg2
    rw [h0]
    clear h0 hx he SP SG IX
    obtain ⟨us, hus, SO⟩ := HV.out
    have US := Lib.hid hus; clear hus
    obtain ⟨g, rfl, hg1, hg2, ⟨cs, hcs⟩, hgf, s, iA, iC, lA, lC, hs, c0, c1, c2, oi, rl, RELAY, _⟩ := SO.shelf hpm zV
    rw [HX.out] at hs
    obtain rfl := Option.some.inj hs
    have RL := Lib.hid RELAY
    clear hs RELAY
    have i0 : (0 : Int) ≤ p := by omega
    have i2 : (p : Int) < sn := by omega
    have ri := RS.of_own oi
    obtain ⟨n, hn⟩ : ∃ n, n = x.ids.length := ⟨_, rfl⟩
    rw [← hn] at c1 ri RK RC RSS sg2
    clear hn
    go_wp2_with fail
    go_loopw [9, 10] (fun t i wr => ∃ j : Nat, j ≤ n ∧ i = .int .i64 j ∧ t = .int .i64 (lastTo x.ids er j) ∧ Below V.heap.size V wr) (fun _ i _ => n - (intOf i).toNat)
    case atStart => exact ⟨0, Nat.zero_le _, rfl, rfl, Below.refl _ _⟩
    case round =>
      obtain ⟨j, hj, rfl, rfl, hb⟩ := hrel
      have q0 := blk_at (blk_keep hb QV.out) (j := 0) rfl
      have c1 := cell_keep hb c1
      have j1 : (0 : Int) ≤ j := by omega
      by_cases hlt : j < n
      · obtain ⟨g2, off2, hA, y, hy, cy⟩ := (ri.below hb).intAt hlt
        subst hA
        have HY := Lib.hid hy; clear hy
        have e6 := (evCells (e := ⟨id, day, 5, item, eq, ea, er⟩) (blk_keep hb EV.out)).2.2.2.2.2.2
        simp only at e6
        have j2 : (j : Int) < n := by omega
        by_cases hr : y = er
        · have HH := Lib.hid (lastTo_hit HY.out hr)
          subst hr
          go_wp2_with fail
          go_quiet (fail)
          go_wp2_with fail
          go_roundw
          case rel => exact ⟨j + 1, by omega, by go_num, by rw [HH.out], below_drewN hb nq⟩
          case measure => simp [intOf]; omega
        · have HH := Lib.hid (lastTo_miss HY.out hr)
          have hrb : (y == er) = false := by simpa using hr
          go_wp2_with fail
          go_quiet (fail)
          go_wp2_with fail
          go_roundw
          case rel => exact ⟨j + 1, by omega, by go_num, by rw [HH.out], below_drewN hb nq⟩
          case measure => simp [intOf]; omega
      · obtain rfl : n = j := by omega
        have bd := lastTo_bd x.ids er n
        obtain ⟨ix, hix⟩ : ∃ ix, ix = lastTo x.ids er n := ⟨_, rfl⟩
        rw [← hix] at RK RC RSS bd ⊢
        clear hix
        obtain ⟨bd1, bd2⟩ := bd
        have QR := Lib.hid (blk_keep hb QV.out); have ER := Lib.hid (blk_keep hb EV.out); have ZR := Lib.hid (blk_keep hb ZV.out)
        have BR := Lib.hid (BV.out.trans (hb.mono zV)); have KR := Lib.hid (KV.out.trans (Keeps.below hb))
        by_cases hneg : ix < 0
        · rw [if_pos hneg] at RK
          have R := Lib.hid (show (bookLate ⟨ss, k, ds⟩ ⟨id, day, 5, item, eq, ea, er⟩).1 = 4 by simp [bookLate, RK.out])
          clear q0
          have x0 := blk_at QR.out (j := 0) rfl; have x1 := blk_at QR.out (j := 1) rfl; have x2 := blk_at QR.out (j := 2) rfl; have xf := blk_free QR.out
          have z0 := blk_at ZR.out (j := 0) rfl; have z1 := blk_at ZR.out (j := 1) rfl; have z2 := blk_at ZR.out (j := 2) rfl; have zf := blk_free ZR.out
          go_wp2_with fail
          rw [R.out]
          refine bodyPost_ret (v := .tuple #[.agg #[.slice (some ⟨g, 0, none⟩) sn sc, .int .i64 k, .slice dA dn dc], .int .i64 4]) (by simp [results, Try.results57, go_sem, z0, z1, z2]) rfl ⟨(some ⟨g, 0, none⟩), sn, sc, k, dA, dn, dc, rfl, (fun h => by first | (exact absurd h (by decide)) | (cases h) | (exact absurd h ‹_›)), below_out3 BR.out (by omega) _ _ _, Keeps.into KR.out (below_out3 (Below.refl _ _) (by omega) _ _ _)⟩
        · rw [if_neg hneg] at RK
          have c2 := cell_keep hb c2
          have e5 := (evCells (e := ⟨id, day, 5, item, eq, ea, er⟩) ER.out).2.2.2.2.2.1
          simp only at e5
          have rl := rl.below hb
          have zr := hb.size
          cases ha : lateOk x.lays ix ea
          all_goals
            have HA := Lib.hid ha; clear ha
            rw [HA.out] at RK
            go_wp2_with fail
            go_region_held3 (fun w' => w'.cell? ⟨w.heap.size, 0, none⟩ = some (.slice (some ⟨g, 0, none⟩) sn sc) ∧ w'.cell? ⟨g, p * 3 + 2, none⟩ = some (.slice lA x.lays.length lC) ∧ w'.cell? ⟨w.heap.size + 1, 5, none⟩ = some (.int .i64 ea))
              (first
                | go_keep
                | (go_split_ands; exact ⟨cell_keep hb2 q0, cell_keep hb2 c2, cell_keep hb2 e5⟩))
              (first | (go_at_call 82; refine (specAddLate _ _ _ x.lays _ _ wr.drew (rl.drewN 1) (by omega)).mono ?_; rw [HA.out]; rintro e' w2 ⟨A2, c2', rfl, o2, hb2⟩))
            have b2 := Lib.hid (show Below wr.heap.size wr w2 from (Below.refl _ _).drew.trans hb2)
            have Q2 := Lib.hid (blk_keep b2.out QR.out); have E2 := Lib.hid (blk_keep b2.out ER.out); have Z2 := Lib.hid (blk_keep b2.out ZR.out)
            have B2 := Lib.hid (BR.out.trans (b2.out.mono (Nat.le_trans zV zr))); have K2 := Lib.hid (KR.out.trans (Keeps.below b2.out))
          · have R := Lib.hid (show (bookLate ⟨ss, k, ds⟩ ⟨id, day, 5, item, eq, ea, er⟩).1 = 2 by simp [bookLate, RK.out])
            clear q0 c0 c1 c2 e5 o2 hb2 oi rl
            have x0 := blk_at Q2.out (j := 0) rfl; have x1 := blk_at Q2.out (j := 1) rfl; have x2 := blk_at Q2.out (j := 2) rfl; have xf := blk_free Q2.out
            have z0 := blk_at Z2.out (j := 0) rfl; have z1 := blk_at Z2.out (j := 1) rfl; have z2 := blk_at Z2.out (j := 2) rfl; have zf := blk_free Z2.out
            go_wp2_with fail
            rw [R.out]
            refine bodyPost_ret (v := .tuple #[.agg #[.slice (some ⟨g, 0, none⟩) sn sc, .int .i64 k, .slice dA dn dc], .int .i64 2]) (by simp [results, Try.results57, go_sem, z0, z1, z2]) rfl ⟨(some ⟨g, 0, none⟩), sn, sc, k, dA, dn, dc, rfl, (fun h => by first | (exact absurd h (by decide)) | (cases h) | (exact absurd h ‹_›)), below_out3 B2.out (by omega) _ _ _, Keeps.into K2.out (below_out3 (Below.refl _ _) (by omega) _ _ _)⟩
          · have RK0 := Lib.hid (show lateCode ss item er ea = 0 by simpa using RK.out)
            have hcs2 := Lib.hid (blk_keep b2.out (blk_keep hb hcs))
            have bb := Lib.hid (hb.trans (b2.out.mono zr))
            obtain ⟨ln, hln⟩ : ∃ ln, ln = (lateOut x.lays ix ea).length := ⟨_, rfl⟩
            rw [← hln] at o2 ⊢
            have SO2 := Lib.hid (RL.out w2 A2 ln c2' (lateOut x.lays ix ea) bb.out (own_base o2 zr)).top
            have C2 := cell_keep hb2 c2; have f2 := blk_free hcs2.out; have q02 := cell_keep hb2 q0
            obtain ⟨y, hy⟩ : ∃ y, y = lateGone x.lays ix ea := ⟨_, rfl⟩
            have yb1 : -24000000000 ≤ y := by rw [hy]; exact (lateGone_bd _ _ _).1
            have yb2 : y ≤ 24000000000 := by rw [hy]; exact (lateGone_bd _ _ _).2
            rw [← hy] at RC ⊢
            clear c0 c1 c2 e5 q0 o2 hb2 oi rl hln hy
            have KS := Lib.hid (Keeps.set (q := none) (u := .slice A2 ln c2') (p := ⟨g, p * 3 + 2, none⟩) hcs2.out (by decide) (by decide))
            go_upto_region 17 with fail
            obtain ⟨V1, hV⟩ : ∃ V1, V1 = w2.setCell ⟨g, p * 3 + 2, none⟩ (.slice A2 ln c2') := ⟨_, rfl⟩
            rw [← hV] at KS SO2 ⊢
            have QV1 := Lib.hid (KS.out _ _ _ (.inr ⟨rfl, by simp⟩) Q2.out); have EV1 := Lib.hid (KS.out _ _ _ (.inl rfl) E2.out); have ZV1 := Lib.hid (KS.out _ _ _ (.inr ⟨rfl, by simp⟩) Z2.out); have KV1 := Lib.hid (K2.out.trans KS.out)
            have BV1 := Lib.hid (show Below lo w V1 by rw [hV]; exact B2.out.setCell (p := ⟨g, p * 3 + 2, none⟩) hg1 (.slice A2 ln c2'))
            have HV1 := Lib.hid (show BooksO V1 lo V1.heap.size _ _ _ _ _ _ from ⟨us, US.out, SO2.out⟩)
            rw [← RSS.out] at HV1
            clear hV C2 f2 q02 K2 KS
            have wk : IntKind.i64.wrap (ea - y) = ea - y := IntWalk.i64_in _ (by omega)
            cases hp : bkPostOk ds day (lateE ⟨id, day, 5, item, eq, ea, er⟩ y)
            · have HP := Lib.hid hp; clear hp
              have R := Lib.hid (show (bookLate ⟨ss, k, ds⟩ ⟨id, day, 5, item, eq, ea, er⟩).1 = 3 by simp [bookLate, RK0.out, RC.out, postB, HP.out])
              have ec := evCells (e := ⟨id, day, 5, item, eq, ea, er⟩) EV1.out; obtain ⟨y0, y1, y2, y3, y4, y5, y6⟩ := ec; simp only at y0 y1 y2 y3 y4 y5 y6; have y5a := cell_alloc y5
              have x0 := blk_at QV1.out (j := 0) rfl; have x1 := blk_at QV1.out (j := 1) rfl; have x2 := blk_at QV1.out (j := 2) rfl; have xf := blk_free QV1.out
              go_wp2_with fail
              clear x0 x1 x2 xf
              refine (specPostBk lo _ (some ⟨g, 0, none⟩) sn sc (k) dA dn dc (lateSs ss item er ea) ds day _ 3 3 _ 3 (lateE ⟨id, day, 5, item, eq, ea, er⟩ y) _ (HV1.out.below (below_then (below_box _ _) (below_box _ _))) (Nat.le_trans (Nat.le_trans hlo BV1.out.size) (below_then (below_box _ _) (below_box _ _)).size) OK.out hdn ((RS_new (by rfl)).alloc _) (RS_new2 (by rfl)) (by omega) (lateE_small _ _)).mono ?_; rw [HP.out, show okCode false = 3 from rfl]; rintro r w5 ⟨D5, m5, d5, rfl, h5, hb5⟩
              have b5 := Lib.hid (show Below V1.heap.size V1 w5 from below_then (below_then (below_box _ _) (below_box _ _)) hb5)
              have Q5 := Lib.hid (blk_keep b5.out QV1.out); have E5 := Lib.hid (blk_keep b5.out EV1.out); have Z5 := Lib.hid (blk_keep b5.out ZV1.out)
              have B5 := Lib.hid (BV1.out.trans (b5.out.mono (Nat.le_trans hlo BV1.out.size)))
              have K5 := Lib.hid (KV1.out.trans (Keeps.below b5.out))
              clear h5 hb5 b5 y0 y1 y2 y3 y4 y5 y5a y6
              have x0 := blk_at Q5.out (j := 0) rfl; have x1 := blk_at Q5.out (j := 1) rfl; have x2 := blk_at Q5.out (j := 2) rfl; have xf := blk_free Q5.out
              go_upto_region 40 with fail
              obtain ⟨VE, hV⟩ : ∃ VE, VE = (((w5.setCell ⟨w.heap.size, 0, none⟩ (.slice (some ⟨g, 0, none⟩) sn sc)).setCell ⟨w.heap.size, 1, none⟩ (.int .i64 k)).setCell ⟨w.heap.size, 2, none⟩ (.slice D5 m5 d5)) := ⟨_, rfl⟩
              have QVE := Lib.hid (show VE.heap[w.heap.size]? = _ from hV ▸ blk_set3 Q5.out (.slice (some ⟨g, 0, none⟩) sn sc) (.int .i64 k) (.slice D5 m5 d5))
              have EVE := Lib.hid ((show VE.heap[w.heap.size + 1]? = _ from hV ▸ blk_set3_ne (by omega) (.slice (some ⟨g, 0, none⟩) sn sc) (.int .i64 k) (.slice D5 m5 d5)).trans E5.out)
              have ZVE := Lib.hid ((show VE.heap[w.heap.size + 1 + 1]? = _ from hV ▸ blk_set3_ne (by omega) (.slice (some ⟨g, 0, none⟩) sn sc) (.int .i64 k) (.slice D5 m5 d5)).trans Z5.out)
              have BVE := Lib.hid (show Below lo w VE from hV ▸ below_out3 B5.out hlo (.slice (some ⟨g, 0, none⟩) sn sc) (.int .i64 k) (.slice D5 m5 d5))
              have KVE := Lib.hid (show Keeps none w VE from hV ▸ Keeps.into K5.out (below_out3 (Below.refl _ _) (Nat.le_refl _) (.slice (some ⟨g, 0, none⟩) sn sc) (.int .i64 k) (.slice D5 m5 d5)))
              rw [← hV]
              clear hV x0 x1 x2 xf
              have x0 := blk_at QVE.out (j := 0) rfl; have x1 := blk_at QVE.out (j := 1) rfl; have x2 := blk_at QVE.out (j := 2) rfl; have xf := blk_free QVE.out
              have z0 := blk_at ZVE.out (j := 0) rfl; have z1 := blk_at ZVE.out (j := 1) rfl; have z2 := blk_at ZVE.out (j := 2) rfl; have zf := blk_free ZVE.out
              go_wp2_with fail
              rw [R.out]
              refine bodyPost_ret (v := .tuple #[.agg #[.slice (some ⟨g, 0, none⟩) sn sc, .int .i64 k, .slice D5 m5 d5], .int .i64 3]) (by simp [results, Try.results57, go_sem, z0, z1, z2]) rfl ⟨(some ⟨g, 0, none⟩), sn, sc, k, D5, m5, d5, rfl, (fun h => by first | (exact absurd h (by decide)) | (cases h) | (exact absurd h ‹_›)), below_out3 BVE.out (by omega) _ _ _, Keeps.into KVE.out (below_out3 (Below.refl _ _) (by omega) _ _ _)⟩
            · have HP := Lib.hid hp; clear hp
              have R := Lib.hid (show bookLate ⟨ss, k, ds⟩ ⟨id, day, 5, item, eq, ea, er⟩ = (0, ⟨lateSs ss item er ea, k, bkPostDs ds day (lateE ⟨id, day, 5, item, eq, ea, er⟩ y)⟩) by simp [bookLate, RK0.out, RC.out, postB, HP.out])
              have ec := evCells (e := ⟨id, day, 5, item, eq, ea, er⟩) EV1.out; obtain ⟨y0, y1, y2, y3, y4, y5, y6⟩ := ec; simp only at y0 y1 y2 y3 y4 y5 y6; have y5a := cell_alloc y5
              have x0 := blk_at QV1.out (j := 0) rfl; have x1 := blk_at QV1.out (j := 1) rfl; have x2 := blk_at QV1.out (j := 2) rfl; have xf := blk_free QV1.out
              go_wp2_with fail
              clear x0 x1 x2 xf
              refine (specPostBk lo _ (some ⟨g, 0, none⟩) sn sc (k) dA dn dc (lateSs ss item er ea) ds day _ 3 3 _ 3 (lateE ⟨id, day, 5, item, eq, ea, er⟩ y) _ (HV1.out.below (below_then (below_box _ _) (below_box _ _))) (Nat.le_trans (Nat.le_trans hlo BV1.out.size) (below_then (below_box _ _) (below_box _ _)).size) OK.out hdn ((RS_new (by rfl)).alloc _) (RS_new2 (by rfl)) (by omega) (lateE_small _ _)).mono ?_; rw [HP.out, show okCode true = 0 from rfl]; rintro r w5 ⟨D5, m5, d5, rfl, h5, hb5⟩
              have b5 := Lib.hid (show Below V1.heap.size V1 w5 from below_then (below_then (below_box _ _) (below_box _ _)) hb5)
              have Q5 := Lib.hid (blk_keep b5.out QV1.out); have E5 := Lib.hid (blk_keep b5.out EV1.out); have Z5 := Lib.hid (blk_keep b5.out ZV1.out)
              have B5 := Lib.hid (BV1.out.trans (b5.out.mono (Nat.le_trans hlo BV1.out.size)))
              have K5 := Lib.hid (KV1.out.trans (Keeps.below b5.out))
              have H5 := Lib.hid (h5 rfl)
              clear h5 hb5 b5 y0 y1 y2 y3 y4 y5 y5a y6
              have x0 := blk_at Q5.out (j := 0) rfl; have x1 := blk_at Q5.out (j := 1) rfl; have x2 := blk_at Q5.out (j := 2) rfl; have xf := blk_free Q5.out
              go_upto_region 40 with fail
              obtain ⟨VE, hV⟩ : ∃ VE, VE = (((w5.setCell ⟨w.heap.size, 0, none⟩ (.slice (some ⟨g, 0, none⟩) sn sc)).setCell ⟨w.heap.size, 1, none⟩ (.int .i64 k)).setCell ⟨w.heap.size, 2, none⟩ (.slice D5 m5 d5)) := ⟨_, rfl⟩
              have QVE := Lib.hid (show VE.heap[w.heap.size]? = _ from hV ▸ blk_set3 Q5.out (.slice (some ⟨g, 0, none⟩) sn sc) (.int .i64 k) (.slice D5 m5 d5))
              have EVE := Lib.hid ((show VE.heap[w.heap.size + 1]? = _ from hV ▸ blk_set3_ne (by omega) (.slice (some ⟨g, 0, none⟩) sn sc) (.int .i64 k) (.slice D5 m5 d5)).trans E5.out)
              have ZVE := Lib.hid ((show VE.heap[w.heap.size + 1 + 1]? = _ from hV ▸ blk_set3_ne (by omega) (.slice (some ⟨g, 0, none⟩) sn sc) (.int .i64 k) (.slice D5 m5 d5)).trans Z5.out)
              have BVE := Lib.hid (show Below lo w VE from hV ▸ below_out3 B5.out hlo (.slice (some ⟨g, 0, none⟩) sn sc) (.int .i64 k) (.slice D5 m5 d5))
              have KVE := Lib.hid (show Keeps none w VE from hV ▸ Keeps.into K5.out (below_out3 (Below.refl _ _) (Nat.le_refl _) (.slice (some ⟨g, 0, none⟩) sn sc) (.int .i64 k) (.slice D5 m5 d5)))
              have HVE := Lib.hid (show BooksO VE lo VE.heap.size _ _ _ _ _ _ from hV ▸ (BooksO.out3 H5.out Q5.out (.slice (some ⟨g, 0, none⟩) sn sc) (.int .i64 k) (.slice D5 m5 d5)).top)
              rw [← hV]
              clear hV x0 x1 x2 xf
              have x0 := blk_at QVE.out (j := 0) rfl; have x1 := blk_at QVE.out (j := 1) rfl; have x2 := blk_at QVE.out (j := 2) rfl; have xf := blk_free QVE.out
              have z0 := blk_at ZVE.out (j := 0) rfl; have z1 := blk_at ZVE.out (j := 1) rfl; have z2 := blk_at ZVE.out (j := 2) rfl; have zf := blk_free ZVE.out
              go_wp2_with fail
              rw [R.out]
              refine bodyPost_ret (v := .tuple #[.agg #[.slice (some ⟨g, 0, none⟩) sn sc, .int .i64 k, .slice D5 m5 d5], .int .i64 0]) (by simp [results, Try.results57, go_sem, z0, z1, z2]) rfl ⟨(some ⟨g, 0, none⟩), sn, sc, k, D5, m5, d5, rfl, fun _ => ⟨rfl, (BooksO.out3 HVE.out ZVE.out _ _ _).top⟩, below_out3 BVE.out (by omega) _ _ _, Keeps.into KVE.out (below_out3 (Below.refl _ _) (by omega) _ _ _)⟩
theorem specBookBk (lo hi2 : Nat) (sA : Option Addr) (sn sc : Nat) (dA : Option Addr) (dn dc : Nat) (b : Bk) (e : Ev) (w : World) (hbk : BooksO w lo hi2 (.slice sA sn sc) sn b.ss (.slice dA dn dc) dn b.ds) (hlo : lo ≤ w.heap.size) (ha : areBk b.ss b.k b.ds = true) (he : isEvent e = true) (hok : docsSmall b.ds) :
    Calls Try.prog 57 #[.agg #[.slice sA sn sc, .int .i64 b.k, .slice dA dn dc], evAgg e] w fun r w' => ∃ A n c kk D m d, r = .returned (.tuple #[.agg #[.slice A n c, .int .i64 kk, .slice D m d], .int .i64 (bookB b e).1]) ∧
      ((bookB b e).1 = 0 → kk = (bookB b e).2.k ∧ BooksO w' lo w'.heap.size (.slice A n c) n (bookB b e).2.ss (.slice D m d) m (bookB b e).2.ds) ∧ Below lo w w' ∧ Keeps none w w' := by
  have hss := areBk_shs ha
  have hwk : 0 ≤ b.k ∧ b.k ≤ 1000000000 := by simp only [areBk, Bool.and_eq_true] at ha; exact inB_true.1 ha.2.2.1
  have hdn : b.ds.length ≤ 1048576 := by simp only [areBk, Bool.and_eq_true] at ha; have := (areDocs_true ha.2.2.2).1; omega
  rcases isEvent_ways he with ⟨hk, h1, h2⟩ | ⟨hk, h1, h2⟩ | ⟨hk, h1⟩ | ⟨hk, h1, h2⟩ | ⟨hk, h1, h2⟩
  · rw [show bookB b e = bookBuy b e by simp [bookB, hk]]; exact specBookBuy lo hi2 sA sn sc dA dn dc b e w hbk hlo hss hok hdn hwk hk h1 h2
  · rw [show bookB b e = bookMake b e by simp [bookB, hk]]; exact specBookMake lo hi2 sA sn sc dA dn dc b e w hbk hlo hss hok hdn hwk hk h1 h2
  · rw [show bookB b e = bookIss b e by simp [bookB, hk]]; exact specBookIss lo hi2 sA sn sc dA dn dc b e w hbk hlo hss hok hdn hwk hk h1
  · rw [show bookB b e = bookSell b e by simp [bookB, hk]]; exact specBookSell lo hi2 sA sn sc dA dn dc b e w hbk hlo hss hok hdn hwk hk h1 h2
  · rw [show bookB b e = bookLate b e by simp [bookB, hk]]; exact specBookLate lo hi2 sA sn sc dA dn dc b e w hbk hlo hss hok hdn hwk hk h1 h2
end Go.Proofs.Ytlgodbjbllpipaa
