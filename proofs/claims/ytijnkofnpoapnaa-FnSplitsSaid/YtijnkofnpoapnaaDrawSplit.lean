/- The walk of the drawing of a pool and its parts. -/
import Derived.Test.YtijnkofnpoapnaaDrawPool
import Derived.Test.YtijnkofnpoapnaaInts2
namespace Go.Proofs.Ytijnkofnpoapnaa
open Go.ChangeShapes Go.WideShapes Go.ChangeAt Go.RowKit

theorem grown_app {B : Nat} {w w' w'' : World} {row : Option Nat} (h : w.grownBy w' row) (hb : Below B w' w'') (hB : w.heap.size ≤ B) : w.grownBy w'' row :=
  ⟨hb.os.trans h.os, hb.tape.trans h.tape, hb.output.trans h.output, Nat.le_trans h.size hb.size, fun k hk hne => (hb.block k (by omega)).trans (h.block k hk hne)⟩
theorem cur_app {B : Nat} {w w' : World} {g : Nat} (h : Cur w g) (hb : Below B w w') (hg : g < B) : Cur w' g := by
  obtain ⟨A, n, c, i, x, bs, hh, hr, h1, h2, h3, h4⟩ := h
  refine ⟨A, n, c, i, x, bs, (hb.block g hg).trans hh, ⟨hr.len, fun hn => ?_⟩, h1, h2, h3, h4⟩
  obtain ⟨b, off, e, hc⟩ := hr.at_ hn
  have hlt : b < g := h4 _ e hn
  exact ⟨b, off, e, fun j u hu => (hb.cell (p := ⟨b, off + j, none⟩) (show b < B by omega)).trans (hc j u hu)⟩

set_option maxRecDepth 100000 in
set_option maxHeartbeats 4000000 in
theorem DrawSplitPool_any (A : Option Addr) (n c : Nat) (bs : List Int) (w : World) (hr : RS w 1 A n (byteCells bs)) (hbs : ∀ b ∈ bs, 0 ≤ b ∧ b < 256) (hn : n ≤ 1048576) :
    Calls Try.prog 35 #[.slice A n c] w fun e w' => ∃ (a b : Int) (A' : Option Addr) (n' c' : Nat) (l : List Int), e = .returned (.tuple #[.agg #[.int .i64 a, .int .i64 b], .slice A' n' c']) ∧ i64 a ∧ i64 b ∧ RS w' 1 A' n' (intCells l) ∧ n' ≤ 40 ∧ Below w.heap.size w w' := by
  obtain ⟨i0, hi, hz0, hz1, hz2⟩ := info_parts intInfo
  go_enter Try.func35, Try.ntmps35
  go_wp2_with fail
  refine (l1New_any _ _ _ _ _ (hr.alloc _) hbs (by omega)).mono ?_; rintro e w1 ⟨g, rfl, hg1, hb1, hc1⟩
  have HR := Lib.hid (blk_keep hb1 (blk_new1 w _))
  have hR : w.heap.size < g := by rw [World.size_alloc] at hg1; omega
  have b1 := (below_box w (Obj.cells #[.int .i64 0, .int .i64 0] 27)).trans (hb1.mono (below_box w _).size)
  have hlt := hc1.lt
  clear hb1 hg1
  go_wp2_with fail
  refine (l1Below_any g _ _ (hc1.below (below_box _ _)) (by omega)).mono ?_; rintro e w2 ⟨m0, rfl, hm0, -, hm1, hg2, hc2⟩
  have hm2 := hm1 (by omega)
  have G2 := (World.grownBy_alloc w1 (Obj.cells #[] 3) (some g)).trans hg2
  have o2 := row_grown (own_empty w1 w1.heap.size 3 1 (Nat.le_refl _)) hg2 (cur_apart (own_empty w1 w1.heap.size 3 1 (Nat.le_refl _)) hlt)
  clear hc1 hm1 hg2
  go_wp2_with fail
  go_loopw [5, 6] (fun v i wr => ∃ (k : Nat) (m : Int) (A : Option Addr) (c : Nat) (l : List Int), 0 ≤ m ∧ k + m ≤ 6 ∧ i = .int .i64 m ∧ v = .slice A k c ∧ wr.ownsRow w1.heap.size 3 1 (.slice A k c) k (intCells l) ∧ Hid (ups 1000000000 l) ∧ w1.grownBy wr (some g) ∧ Cur wr g) (fun _ i _ => (intOf i).toNat)
  case atStart => exact ⟨0, m0, _, _, [], hm0, by omega, rfl, rfl, o2, fun x hx => absurd hx (by simp), G2, hc2⟩
  case round =>
    obtain ⟨k, m, A, c, l, hm, hkm, rfl, rfl, ho, hu, hg, hc⟩ := hrel
    clear o2 G2 hc2
    have hz := hg.size
    by_cases h0 : 0 < m
    · go_wp2_with fail
      refine (l1Below_any g _ _ hc (by omega)).mono ?_; rintro e w3 ⟨x, rfl, hx0, hx1, -, hg3, hc3⟩
      have o3 := row_grown ho hg3 (cur_apart ho hlt)
      have G3 := hg.trans hg3
      have z3 := G3.size
      have HU := Lib.hid (show ups 1000000000 (l ++ [x]) from fun y hy => by
        rcases List.mem_append.1 hy with h | h
        · exact hu.out y h
        · simp at h; subst h; exact ⟨hx0, hx1⟩)
      clear ho hg hc hg3 hu
      go_wp2_with (at_builtin; refine wpList_app _ rfl _ _ _ rfl w1.heap.size 3 i0 _ 1 8 Try.underlying31 hi hz0 hz1 hz2 rfl (by omega) _ k (intCells l) rfl (o3.alloc _) _ 1 1 (intCells [x]) rfl (RS_new (by simp)) (intCells_one _) (by unfold maxLen; omega) (by omega) (by simp; omega) ?_; intro A4 c4 w4 o4 _ _ hb4)
      go_roundw
      case rel =>
        rw [← List.map_append] at o4
        exact ⟨k + 1, m - 1, A4, c4, l ++ [x], by omega, by omega, by go_num, rfl, o4, HU.out, grown_app (G3.trans (World.grownBy_alloc w3 _ _)) hb4 (Nat.le_refl _), cur_app (hc3.below (below_box w3 _)) hb4 hlt⟩
      case measure => simp [intOf]; omega
    · have hl := own_ints ho
      have bdd := sumI_bd' (N := 6) hu.out (by omega) (by omega) l.length (Nat.le_refl _)
      rw [sumI_all] at bdd
      have HL := Lib.hid hl; clear hl
      go_wp2_with fail
      refine (specSum _ _ _ l _ (RS.of_own ho) (by omega) hu.out).mono ?_; rintro e w' ⟨rfl, rfl⟩
      go_wp2_with fail
      refine (l1Below_any g _ _ hc (by omega)).mono ?_; rintro e w5 ⟨v, rfl, hv0, hv1, -, hg5, hc5⟩
      have o5 := row_grown ho hg5 (cur_apart ho hlt)
      have G5 := hg.trans hg5
      have z5 := G5.size
      have HR := Lib.hid (blk_grown G5 HR.out (by omega))
      have hrow : ∀ a, A = some a → a.block < w5.heap.size := fun a e => (o5.lt a.block (by rw [e]; rfl)).2
      clear ho hg hc hg5
      generalize l.sum = q at *
      have HX := Lib.hid (blk_new1 w5 (Obj.cells #[.int .i64 q, .int .i64 v] 27))
      have bb := below_box w5 (Obj.cells #[.int .i64 q, .int .i64 v] 27)
      go_wp2_with fail
      refine (l1Once_any g _ _ (hc5.below bb) (by omega)).mono ?_; rintro e w6 ⟨b6, rfl, hg6, hc6⟩
      have HR := Lib.hid (blk_grown hg6 (blk_alloc HR.out _) (by omega))
      have HX := Lib.hid (blk_grown hg6 HX.out (by omega))
      have o6 := row_grown (own_below o5 bb) hg6 (cur_apart (own_below o5 bb) hlt)
      have G6 := (G5.trans (World.grownBy_alloc w5 _ _)).trans hg6
      have z6 := G6.size
      clear o5 G5 hg6 hc5 bb
      cases b6
      · have x0 := blk_at HX.out (j := 0) rfl; have x1 := blk_at HX.out (j := 1) rfl
        have r0 := blk_at HR.out (j := 0) rfl; have r1 := blk_at HR.out (j := 1) rfl; have rf := blk_free HR.out
        have hlR : w.heap.size < w1.heap.size := by omega
        go_wp2_with fail
        refine bodyPost_ret (v := .tuple #[.agg #[.int .i64 q, .int .i64 v], .slice A k c]) (by simp [results, Try.results35, go_sem, r0, r1]) rfl ⟨q, v, A, k, c, l, rfl, ⟨by omega, by omega⟩, ⟨by omega, by omega⟩, ?_, by omega, ?_⟩
        · refine ((RS.of_own o6).grown (grown_set _ ⟨w.heap.size, 0, none⟩ _) (fun a e hk he => ?_)).grown (grown_set _ ⟨w.heap.size, 1, none⟩ _) (fun a e hk he => ?_)
          all_goals
            have := (o6.lt a.block (by rw [e]; rfl)).1
            injection he with he
            simp only at he
            omega
        · exact ((below_grown b1 G6 (by omega) b1.size).setCell (Nat.le_refl _) _).setCell (Nat.le_refl _) _
      · go_wp2_with fail
        refine (l32Pool_any g _ hc6).mono ?_; rintro e w7 ⟨a, b, rfl, ha, hb, hg7, hc7⟩
        have HR := Lib.hid (blk_grown hg7 HR.out (by omega))
        have HX := Lib.hid (blk_grown hg7 HX.out (by omega))
        have o7 := row_grown o6 hg7 (cur_apart o6 hlt)
        have G7 := G6.trans hg7
        clear o6 G6 hg7 hc6
        have x0 := blk_at HX.out (j := 0) rfl; have x1 := blk_at HX.out (j := 1) rfl; have xf := blk_free HX.out
        have r0 := blk_at HR.out (j := 0) rfl; have r1 := blk_at HR.out (j := 1) rfl; have rf := blk_free HR.out
        have hlR : w.heap.size < w5.heap.size := by omega
        have hne : ¬ w.heap.size = w5.heap.size := by omega
        have hne' : ¬ w5.heap.size = w.heap.size := by omega
        go_wp2_with fail
        refine bodyPost_ret (v := .tuple #[.agg #[.int .i64 a, .int .i64 b], .slice A k c]) (by simp [results, Try.results35, go_sem, r0, r1]) rfl ⟨a, b, A, k, c, l, rfl, ha, hb, ?_, by omega, ?_⟩
        · refine ((((RS.of_own o7).grown (grown_set _ ⟨w5.heap.size, 0, none⟩ _) (fun a e hk he => ?_)).grown (grown_set _ ⟨w5.heap.size, 1, none⟩ _) (fun a e hk he => ?_)).grown (grown_set _ ⟨w.heap.size, 0, none⟩ _) (fun a e hk he => ?_)).grown (grown_set _ ⟨w.heap.size, 1, none⟩ _) (fun a e hk he => ?_)
          all_goals
            have h1 := (o7.lt a.block (by rw [e]; rfl)).1
            have h2 := hrow a e
            injection he with he
            simp only at he
            omega
        · exact ((((below_grown b1 G7 (by omega) b1.size).setCell (by simp only; omega) _).setCell (by simp only; omega) _).setCell (Nat.le_refl _) _).setCell (Nat.le_refl _) _
end Go.Proofs.Ytijnkofnpoapnaa
