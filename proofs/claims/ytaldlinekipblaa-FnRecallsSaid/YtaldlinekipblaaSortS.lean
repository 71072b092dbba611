/- The walk of l30Sort. No condition. -/
import Derived.Test.YtaldlinekipblaaReachP
import Derived.Test.YtaldlinekipblaaSStr
import Derived.Test.YtaldlinekipblaaOwns
import Derived.Test.YtaldlinekipblaaSub
import Derived.Test.YtaldlinekipblaaStep
namespace Go.Proofs.Ytaldlinekipblaa
open Go.ChangeShapes Go.WideShapes Go.ChangeAt Go.RowKit

theorem RS_grown {w w' : World} {size n g off : Nat} {xs : List Value} {row : Option Nat} (h : RS w size (some ⟨g, off, none⟩) n xs) (hg : w.grownBy w' row) (hlt : g < w.heap.size) (hne : some g ≠ row) : RS w' size (some ⟨g, off, none⟩) n xs :=
  ⟨h.len, fun hn => let ⟨g', off', e, hc⟩ := h.at_ hn; ⟨g', off', e, fun j u hu => by
    have e := Option.some.inj e
    injection e with e1 e2
    subst e1 e2
    rw [hg.cell_far _ hlt hne]; exact hc j u hu⟩⟩
theorem add_at (g off j : Nat) : (⟨g, off, none⟩ : Addr).add j = ⟨g, off + j, none⟩ := by
  unfold Addr.add; split <;> simp_all
set_option maxRecDepth 100000 in
set_option maxHeartbeats 4000000 in
theorem specSortO (A : Option Addr) (n c : Nat) (l : List ByteArray) (w : World) (hr : RS w 1 A n (l.flatMap stCell)) (hn : n ≤ 1048600) :
    Calls Try.prog 34 #[.slice A n c] w fun e w' => ∃ A' c', e = .returned (.slice A' (sortO l).length c') ∧ w'.ownsRow w.heap.size 9 1 (.slice A' (sortO l).length c') (sortO l).length ((sortO l).flatMap stCell) ∧ Below w.heap.size w w' := by
  have hl := Lib.hid (hr.flatLen stCell_len (by omega))
  have LN := Lib.hid (show ∀ k, k ≤ n → (sortO (l.take k)).length ≤ k from fun k hk => by have := sortO_len (l.take k); rw [List.length_take] at this; omega)
  obtain ⟨i0, hi, hz0, hz1, hz2⟩ := info_parts stInfo
  have E0 := Lib.hid (own_empty w w.heap.size 9 1 (Nat.le_refl _))
  go_enter Try.func34, Try.ntmps34
  go_wp2
  go_loopw [3, 4] (fun v i wr => ∃ (k m g' c' : Nat), k ≤ n ∧ i = .int .i64 k ∧ v = .slice (some ⟨g', 0, none⟩) m c' ∧ m ≤ c' ∧ Hid ((sortO (l.take k)).length = m) ∧ wr.ownsRow w.heap.size 9 1 (.slice (some ⟨g', 0, none⟩) m c') m ((sortO (l.take k)).flatMap stCell) ∧ Below w.heap.size w wr) (fun _ i _ => n - (intOf i).toNat)
  case atStart => exact ⟨0, 0, _, _, Nat.zero_le _, rfl, rfl, Nat.le_refl _, rfl, E0.out, below_box w _⟩
  case round =>
    obtain ⟨k, m, g', c', hk, rfl, rfl, hmc, HM, ho, hb⟩ := hrel
    clear E0
    by_cases hlt : k < n
    · obtain ⟨s, hs⟩ : ∃ s, l[k]? = some s := ⟨_, List.getElem?_eq_getElem (by rw [hl.out]; exact hlt)⟩
      have TK := Lib.hid (sortO_take hs)
      have HS := Lib.hid hs; clear hs
      have mk : m ≤ k := by have := LN.out k (by omega); rw [HM.out] at this; exact this
      obtain ⟨T, hT⟩ : ∃ T, sortO (l.take k) = T := ⟨_, rfl⟩
      rw [hT] at HM ho TK
      clear hT
      have i1 : (0 : Int) ≤ k := by omega
      have i2 : (k : Int) < n := by omega
      obtain ⟨wu, hwu⟩ : ∃ x : World, x = wr := ⟨_, rfl⟩
      subst hwu
      have zb := hb.size
      go_wp2_with fail
      go_loopw [5] (fun i wr => ∃ p : Nat, p ≤ m ∧ i = .int .i64 p ∧ Below wu.heap.size wu wr ∧ Hid (∀ (j : Nat) (x : ByteArray), j < p → T[j]? = some x → txtLess x s = true)) (fun i _ => m - (intOf i).toNat)
      case atStart => exact ⟨0, Nat.zero_le _, rfl, Below.refl _ _, fun j x h => absurd h (Nat.not_lt_zero _)⟩
      case round =>
        obtain ⟨p, hp, rfl, hbu, hle⟩ := hrel
        have zu := hbu.size
        have b2 := Lib.hid (below_app hb hbu zb)
        have o2 := own_below ho hbu
        obtain ⟨g, off, rfl, s', hs', hc0⟩ := hr.stAt hlt
        have gl := World.block_lt_of_cell? _ _ hc0
        simp only at gl
        have hc := cell_keep b2.out hc0
        clear hc0
        rw [HS.out] at hs'
        obtain rfl : s = s' := Option.some.inj hs'
        have a0 := cell_wext hc
        have p1 : (0 : Int) ≤ p := by omega
        by_cases hpm : p < m
        · have p2 : (p : Int) < m := by omega
          have rt := RS.of_own o2
          obtain ⟨g2, off2, he2, x, hx, hcx⟩ := rt.stAt hpm
          have he2 := Option.some.inj he2
          injection he2 with e1 e2
          subst e1 e2
          rw [Nat.zero_add] at hcx
          have a1 := cell_wext hcx
          have HX := Lib.hid hx; clear hx
          cases hless : Op.bytesLess x.toList s.toList
          · have p3 : ((p : Int) == (m : Int)) = false := by simp; omega
            go_wp2_with fail
            refine wp_region_ext (by kernel_rfl) (by kernel_rfl) ?_
            repeat (go_big_quiet_step (fail))
            refine wpQuiet_nil ?_
            intro _ hw'; obtain ⟨nq, hw''⟩ := hw'; subst hw''
            have bq := below_wext wr nq
            have c1 := cell_keep bq hc; have c2 := cell_keep bq hcx
            have o3 := own_below o2 bq
            have b3 := Lib.hid (below_app b2.out bq b2.out.size)
            clear a0 a1 hc hcx o2
            generalize wext wr nq = wv at *
            have a0 := cell_wext c1; have a1 := cell_wext c2
            by_cases he : x = s
            · subst he
              have TS := Lib.hid (TK.out.trans (insO_hit hle.out HX.out))
              go_wp2_with fail
              refine wp_region_ext (by kernel_rfl) (by kernel_rfl) ?_
              repeat (go_big_quiet_step (fail))
              refine wpQuiet_nil ?_
              intro _ hw'; obtain ⟨nq, hw''⟩ := hw'; subst hw''
              have b4 := below_app b3.out (below_wext wv nq) b3.out.size
              have o4 := own_below o3 (below_wext wv nq)
              go_wp2_with fail
              go_roundw
              case rel => exact ⟨k + 1, m, _, c', by omega, by go_num, rfl, hmc, by rw [Hid, TS.out]; exact HM.out, by rw [TS.out]; exact o4, b4⟩
              case measure => simp [intOf]; omega
            · have hne := text_ne he
              have hneb : (x.toList == s.toList) = false := by simpa using hne
              have hneb2 : (x.toList != s.toList) = true := by simpa using hne
              have TS := Lib.hid (TK.out.trans (insO_at hle.out HX.out hless he))
              go_wp2_with fail
              refine wp_region_ext (by kernel_rfl) (by kernel_rfl) ?_
              repeat (go_big_quiet_step (fail))
              refine wpQuiet_nil ?_
              intro _ hw'; obtain ⟨nq, hw''⟩ := hw'; subst hw''
              have bq := below_wext wv nq
              have c3 := cell_keep bq c1
              have o4 := own_below o3 bq
              have b4 := Lib.hid (below_app b3.out bq b3.out.size)
              have TT := (RS.of_own o4).flatTake (k := p) stCell_len (by omega) (by omega)
              clear a0 a1 c1 c2 o3 bq
              generalize wext wv nq = wx at *
              go_wp2_with fail
              have pcN : p ≤ c' := by omega
              have pc : (p : Int) ≤ c' := by omega
              have pmN : p ≤ m := by omega
              have pm : (p : Int) ≤ m := by omega
              have ck : ¬ c' - p = 0 := by omega
              have ck2 : ¬ c' = p := by omega
              have AD := fun j => add_at g' 0 j
              have zx := b4.out.size
              have gx : g < wx.heap.size := by omega
              have OE := own_empty wx wx.heap.size 9 1 (Nat.le_refl _)
              have OE2 : ((wx.alloc (Obj.cells #[.string s] 9)).drew.alloc (Obj.cells #[] 9)).ownsRow wx.heap.size 9 1 (.slice (some ⟨wx.heap.size + 1, 0, none⟩) 0 0) 0 [] := by simpa using own_empty (wx.alloc (Obj.cells #[.string s] 9)).drew wx.heap.size 9 1 (by simp)
              have OE3 : ((wx.alloc (Obj.cells #[.string s] 9)).alloc (Obj.cells #[] 9)).ownsRow wx.heap.size 9 1 (.slice (some ⟨wx.heap.size + 1, 0, none⟩) 0 0) 0 [] := by simpa using own_empty (wx.alloc (Obj.cells #[.string s] 9)) wx.heap.size 9 1 (by simp)
              have TD := (RS.of_own o4).flatDrop (k := p) (A' := some ⟨g', p, none⟩) stCell_len (by omega) (by omega) (fun _ g0 off0 e => by injection e with e; injection e with e1 e2; subst e1 e2; simp)
              have QB : RS ((wx.alloc (Obj.cells #[] 9)).drew.alloc (Obj.cells #[.string s] 9)) 1 (some ⟨wx.heap.size + 1, 0, none⟩) 1 (stCell s) := by simpa [stCell] using RS_new (w := (wx.alloc (Obj.cells #[] 9)).drew) (cs := #[.string s]) (t := 9) (n := 1) (size := 1) (by simp)
              have QD : RS ((wx.alloc (Obj.cells #[] 9)).alloc (Obj.cells #[.string s] 9)) 1 (some ⟨wx.heap.size + 1, 0, none⟩) 1 (stCell s) := RS_new2 (by simp)
              have QC : RS (wx.alloc (Obj.cells #[.string s] 9)) 1 (some ⟨wx.heap.size, 0, none⟩) 1 (stCell s) := RS_new (by simp)
              go_region_held3 (fun w' => w'.cell? ⟨g, off + k, none⟩ = some (.string s))
                (first
                  | go_keep
                  | (rw [b8.cell (by exact gx)]; assumption)
                  | (rw [b7.cell (by exact gx)]; assumption)
                  | (rw [b5.cell (by exact gx)]; assumption))
                (first
                  | (refine step_app _ (by rfl) _ _ _ (by rfl) wx.heap.size 9 i0 _ 1 16 Try.underlying24 hi hz0 hz1 hz2 rfl (by omega) (.slice A7 (p + 1) c7) (p + 1) _ (by rfl) (by first | exact o7 | exact o7.drew | exact (o7.alloc _) | exact (o7.alloc _).drew | exact (o7.drew.alloc _) | exact (o7.drew.alloc _).drew) _ (m - p) _ _ (by rfl) (TD.below (by first | exact B7 | (refine Below.trans B7 ?_; have := B7.size; go_grown <;> omega))) (flat_one_cell stCell_one _) (by unfold maxLen; omega) (by omega) (by have := B7.size; first | omega | (simp; omega)) ?_; intro A8 c8 w8 o8 _ _ b8; have B8 : Below wx.heap.size wx w8 := (by refine Below.trans ?_ b8; first | exact B7 | (refine Below.trans B7 ?_; have := B7.size; go_grown <;> omega)))
                  | (refine step_app _ (by rfl) _ _ _ (by rfl) wx.heap.size 9 i0 _ 1 16 Try.underlying24 hi hz0 hz1 hz2 rfl (by omega) (.slice A5 p c5) p _ (by rfl) (by first | exact o5 | exact o5.drew | exact (o5.alloc _) | exact (o5.alloc _).drew | exact (o5.drew.alloc _) | exact (o5.drew.alloc _).drew) _ 1 1 (stCell s) (by rfl) (by first | exact RS_new (w := w5) (cs := #[.string s]) (by simp) | exact (RS_new (w := w5) (cs := #[.string s]) (by simp)).drewN 1 | exact RS_new (w := w5.drew) (cs := #[.string s]) (by simp) | exact (RS_new (w := w5.drew) (cs := #[.string s]) (by simp)).drewN 1 | exact (RS_grown QB g5 (by simp <;> omega) (by simp [Value.ownBlock])) | exact (RS_grown QB g5 (by simp <;> omega) (by simp [Value.ownBlock])).drewN 1 | exact (RS_grown (QB.drewN 1) g5 (by simp <;> omega) (by simp [Value.ownBlock])) | exact (RS_grown (QB.drewN 1) g5 (by simp <;> omega) (by simp [Value.ownBlock])).drewN 1 | exact (RS_grown QD g5 (by simp <;> omega) (by simp [Value.ownBlock])) | exact (RS_grown QD g5 (by simp <;> omega) (by simp [Value.ownBlock])).drewN 1 | exact (RS_grown (QD.drewN 1) g5 (by simp <;> omega) (by simp [Value.ownBlock])) | exact (RS_grown (QD.drewN 1) g5 (by simp <;> omega) (by simp [Value.ownBlock])).drewN 1 | exact (RS_grown (QC.alloc _) g5 (by simp <;> omega) (by simp [Value.ownBlock])) | exact (RS_grown (QC.alloc _) g5 (by simp <;> omega) (by simp [Value.ownBlock])).drewN 1 | exact (RS_grown ((QC.alloc _).drewN 1) g5 (by simp <;> omega) (by simp [Value.ownBlock])) | exact (RS_grown ((QC.alloc _).drewN 1) g5 (by simp <;> omega) (by simp [Value.ownBlock])).drewN 1 | exact (RS_grown ((QC.drewN 1).alloc _) g5 (by simp <;> omega) (by simp [Value.ownBlock])) | exact (RS_grown ((QC.drewN 1).alloc _) g5 (by simp <;> omega) (by simp [Value.ownBlock])).drewN 1 | exact (RS_grown (((QC.drewN 1).alloc _).drewN 1) g5 (by simp <;> omega) (by simp [Value.ownBlock])) | exact (RS_grown (((QC.drewN 1).alloc _).drewN 1) g5 (by simp <;> omega) (by simp [Value.ownBlock])).drewN 1) (stCell_one _) (by unfold maxLen; omega) (by omega) (by have := B5.size; first | omega | (simp; omega)) ?_; intro A7 c7 w7 o7 _ _ b7; have B7 : Below wx.heap.size wx w7 := (by refine Below.trans ?_ b7; first | exact B5 | (refine Below.trans B5 ?_; have := B5.size; go_grown <;> omega)))
                  | (refine step_app0 _ (by rfl) _ _ _ (by rfl) wx.heap.size 9 i0 _ 1 16 Try.underlying24 hi hz0 hz1 hz2 rfl (by omega) (.slice (some ⟨_, 0, none⟩) 0 0) (by rfl) (by first | exact OE | exact OE.drew | exact (OE.alloc _) | exact (OE.alloc _).drew | exact (OE.drew.alloc _) | exact (OE.drew.alloc _).drew | exact OE2 | exact OE2.drew | exact OE3 | exact OE3.drew) _ p _ _ (by rfl) (TT.below (by go_grown)) (flat_one_cell stCell_one _) (by unfold maxLen; omega) (by omega) (by simp <;> omega) ?_; intro A5 c5 w5 o5 g5 _ b5; have B5 : Below wx.heap.size wx w5 := (by refine Below.trans ?_ b5; go_grown <;> omega)))
              all_goals
                have LT := Lib.hid (show (sortO (l.take (k + 1))).length = p + 1 + (m - p) by rw [TS.out]; simp only [List.length_append, List.length_cons, List.length_take, List.length_drop, HM.out]; omega)
                have o9 : w8.ownsRow wx.heap.size 9 1 (.slice A8 (p + 1 + (m - p)) c8) (p + 1 + (m - p)) ((sortO (l.take (k + 1))).flatMap stCell) := by
                  rw [TS.out]
                  simpa [flat_append, List.flatMap_cons, List.append_assoc] using o8
                have b9 := below_app b4.out B8 zx
                obtain ⟨g8, rfl, _, _, _, _⟩ := own_addr o9 (by omega)
                obtain ⟨_, c8', e8, hmc8, _⟩ := own_slice o9
                obtain rfl : c8 = c8' := by injection e8
                go_wp2_with fail
                go_roundw
                case rel => exact ⟨k + 1, _, g8, c8, by omega, by go_num, rfl, hmc8, LT.out, by first | exact own_base o9 zx | exact own_below (own_base o9 zx) (by go_grown; done), by first | exact b9 | exact b9.drew⟩
                case measure => simp [intOf]; omega
          · have SL := Lib.hid (show ∀ (j : Nat) (y : ByteArray), j < p + 1 → T[j]? = some y → txtLess y s = true from fun j y hj hy => by
              rcases Nat.lt_succ_iff_lt_or_eq.1 hj with h' | rfl
              · exact hle.out j y h' hy
              · rw [HX.out] at hy; injection hy with hy; rw [← hy]; exact hless)
            go_wp2_with fail
            refine wp_region_ext (by kernel_rfl) (by kernel_rfl) ?_
            repeat (go_big_quiet_step (fail))
            refine wpQuiet_nil ?_
            intro _ hw'; obtain ⟨nq, hw''⟩ := hw'; subst hw''
            have b3 := below_app hbu (below_wext wr nq) zu
            go_wp2_with fail
            go_roundw
            case rel => exact ⟨p + 1, by omega, by go_num, b3, SL.out⟩
            case measure => simp [intOf]; omega
        · obtain rfl : m = p := by omega
          have TS := Lib.hid (TK.out.trans (insO_end fun j x hx => hle.out j x (by rw [← HM.out]; exact (List.getElem?_eq_some_iff.1 hx).1) hx))
          have TS : Hid (sortO (l.take (k + 1)) = T.take m ++ s :: T.drop m) := by
            rw [Hid, TS.out, List.take_of_length_le (by rw [HM.out]; exact Nat.le_refl _), List.drop_eq_nil_of_le (by rw [HM.out]; exact Nat.le_refl _)]
          go_wp2_with fail
          refine wp_region_ext (by kernel_rfl) (by kernel_rfl) ?_
          repeat (go_big_quiet_step (fail))
          refine wpQuiet_nil ?_
          intro _ hw'; obtain ⟨nq, hw''⟩ := hw'; subst hw''
          have bq := below_wext wr nq
          have c1 := cell_keep bq hc
          have o3 := own_below o2 bq
          have b3 := Lib.hid (below_app b2.out bq b2.out.size)
          clear a0 hc o2
          generalize wext wr nq = wv at *
          have a0 := cell_wext c1
          go_wp2_with fail
          refine wp_region_ext (by kernel_rfl) (by kernel_rfl) ?_
          repeat (go_big_quiet_step (fail))
          refine wpQuiet_nil ?_
          intro _ hw'; obtain ⟨nq, hw''⟩ := hw'; subst hw''
          have bq := below_wext wv nq
          have c3 := cell_keep bq c1
          have o4 := own_below o3 bq
          have b4 := Lib.hid (below_app b3.out bq b3.out.size)
          have TT := (RS.of_own o4).flatTake (k := m) stCell_len (by omega) (by omega)
          clear a0 c1 o3 bq
          generalize wext wv nq = wx at *
          go_wp2_with fail
          by_cases ck3 : c' = m
          · have ck4 : c' - m = 0 := by omega
            have pcN : m ≤ c' := by omega
            have pc : (m : Int) ≤ c' := by omega
            have pmN : m ≤ m := by omega
            have pm : (m : Int) ≤ m := by omega
            have AD := fun j => add_at g' 0 j
            have zx := b4.out.size
            have gx : g < wx.heap.size := by omega
            have OE := own_empty wx wx.heap.size 9 1 (Nat.le_refl _)
            have OE2 : ((wx.alloc (Obj.cells #[.string s] 9)).drew.alloc (Obj.cells #[] 9)).ownsRow wx.heap.size 9 1 (.slice (some ⟨wx.heap.size + 1, 0, none⟩) 0 0) 0 [] := by simpa using own_empty (wx.alloc (Obj.cells #[.string s] 9)).drew wx.heap.size 9 1 (by simp)
            have OE3 : ((wx.alloc (Obj.cells #[.string s] 9)).alloc (Obj.cells #[] 9)).ownsRow wx.heap.size 9 1 (.slice (some ⟨wx.heap.size + 1, 0, none⟩) 0 0) 0 [] := by simpa using own_empty (wx.alloc (Obj.cells #[.string s] 9)) wx.heap.size 9 1 (by simp)
            have TD : ∀ A, RS wx 1 A 0 ((T.drop m).flatMap stCell) := fun A => by
              have e : T.drop m = [] := List.drop_eq_nil_of_le (by rw [HM.out]; exact Nat.le_refl _)
              rw [e]; exact RS.nil _ _ _
            have QB : RS ((wx.alloc (Obj.cells #[] 9)).drew.alloc (Obj.cells #[.string s] 9)) 1 (some ⟨wx.heap.size + 1, 0, none⟩) 1 (stCell s) := by simpa [stCell] using RS_new (w := (wx.alloc (Obj.cells #[] 9)).drew) (cs := #[.string s]) (t := 9) (n := 1) (size := 1) (by simp)
            have QD : RS ((wx.alloc (Obj.cells #[] 9)).alloc (Obj.cells #[.string s] 9)) 1 (some ⟨wx.heap.size + 1, 0, none⟩) 1 (stCell s) := RS_new2 (by simp)
            have QC : RS (wx.alloc (Obj.cells #[.string s] 9)) 1 (some ⟨wx.heap.size, 0, none⟩) 1 (stCell s) := RS_new (by simp)
            go_region_held3 (fun w' => w'.cell? ⟨g, off + k, none⟩ = some (.string s))
              (first
                | go_keep
                | (rw [b8.cell (by exact gx)]; assumption)
                | (rw [b7.cell (by exact gx)]; assumption)
                | (rw [b5.cell (by exact gx)]; assumption))
              (first
                | (refine step_app _ (by rfl) _ _ _ (by rfl) wx.heap.size 9 i0 _ 1 16 Try.underlying24 hi hz0 hz1 hz2 rfl (by omega) (.slice A7 (m + 1) c7) (m + 1) _ (by rfl) (by first | exact o7 | exact o7.drew | exact (o7.alloc _) | exact (o7.alloc _).drew | exact (o7.drew.alloc _) | exact (o7.drew.alloc _).drew) _ 0 _ _ (by rfl) ((TD _).below (by first | exact B7 | (refine Below.trans B7 ?_; have := B7.size; go_grown <;> omega))) (flat_one_cell stCell_one _) (by unfold maxLen; omega) (by omega) (by have := B7.size; first | omega | (simp; omega)) ?_; intro A8 c8 w8 o8 _ _ b8; have B8 : Below wx.heap.size wx w8 := (by refine Below.trans ?_ b8; first | exact B7 | (refine Below.trans B7 ?_; have := B7.size; go_grown <;> omega)))
                | (refine step_app _ (by rfl) _ _ _ (by rfl) wx.heap.size 9 i0 _ 1 16 Try.underlying24 hi hz0 hz1 hz2 rfl (by omega) (.slice A5 m c5) m _ (by rfl) (by first | exact o5 | exact o5.drew | exact (o5.alloc _) | exact (o5.alloc _).drew | exact (o5.drew.alloc _) | exact (o5.drew.alloc _).drew) _ 1 1 (stCell s) (by rfl) (by first | exact RS_new (w := w5) (cs := #[.string s]) (by simp) | exact (RS_new (w := w5) (cs := #[.string s]) (by simp)).drewN 1 | exact RS_new (w := w5.drew) (cs := #[.string s]) (by simp) | exact (RS_new (w := w5.drew) (cs := #[.string s]) (by simp)).drewN 1 | exact (RS_grown QB g5 (by simp <;> omega) (by simp [Value.ownBlock])) | exact (RS_grown QB g5 (by simp <;> omega) (by simp [Value.ownBlock])).drewN 1 | exact (RS_grown (QB.drewN 1) g5 (by simp <;> omega) (by simp [Value.ownBlock])) | exact (RS_grown (QB.drewN 1) g5 (by simp <;> omega) (by simp [Value.ownBlock])).drewN 1 | exact (RS_grown QD g5 (by simp <;> omega) (by simp [Value.ownBlock])) | exact (RS_grown QD g5 (by simp <;> omega) (by simp [Value.ownBlock])).drewN 1 | exact (RS_grown (QD.drewN 1) g5 (by simp <;> omega) (by simp [Value.ownBlock])) | exact (RS_grown (QD.drewN 1) g5 (by simp <;> omega) (by simp [Value.ownBlock])).drewN 1 | exact (RS_grown (QC.alloc _) g5 (by simp <;> omega) (by simp [Value.ownBlock])) | exact (RS_grown (QC.alloc _) g5 (by simp <;> omega) (by simp [Value.ownBlock])).drewN 1 | exact (RS_grown ((QC.alloc _).drewN 1) g5 (by simp <;> omega) (by simp [Value.ownBlock])) | exact (RS_grown ((QC.alloc _).drewN 1) g5 (by simp <;> omega) (by simp [Value.ownBlock])).drewN 1 | exact (RS_grown ((QC.drewN 1).alloc _) g5 (by simp <;> omega) (by simp [Value.ownBlock])) | exact (RS_grown ((QC.drewN 1).alloc _) g5 (by simp <;> omega) (by simp [Value.ownBlock])).drewN 1 | exact (RS_grown (((QC.drewN 1).alloc _).drewN 1) g5 (by simp <;> omega) (by simp [Value.ownBlock])) | exact (RS_grown (((QC.drewN 1).alloc _).drewN 1) g5 (by simp <;> omega) (by simp [Value.ownBlock])).drewN 1) (stCell_one _) (by unfold maxLen; omega) (by omega) (by have := B5.size; first | omega | (simp; omega)) ?_; intro A7 c7 w7 o7 _ _ b7; have B7 : Below wx.heap.size wx w7 := (by refine Below.trans ?_ b7; first | exact B5 | (refine Below.trans B5 ?_; have := B5.size; go_grown <;> omega)))
                | (refine step_app0 _ (by rfl) _ _ _ (by rfl) wx.heap.size 9 i0 _ 1 16 Try.underlying24 hi hz0 hz1 hz2 rfl (by omega) (.slice (some ⟨_, 0, none⟩) 0 0) (by rfl) (by first | exact OE | exact OE.drew | exact (OE.alloc _) | exact (OE.alloc _).drew | exact (OE.drew.alloc _) | exact (OE.drew.alloc _).drew | exact OE2 | exact OE2.drew | exact OE3 | exact OE3.drew) _ m _ _ (by rfl) (TT.below (by go_grown)) (flat_one_cell stCell_one _) (by unfold maxLen; omega) (by omega) (by simp <;> omega) ?_; intro A5 c5 w5 o5 g5 _ b5; have B5 : Below wx.heap.size wx w5 := (by refine Below.trans ?_ b5; go_grown <;> omega)))
            all_goals
              have LT := Lib.hid (show (sortO (l.take (k + 1))).length = m + 1 + 0 by rw [TS.out]; simp only [List.length_append, List.length_cons, List.length_take, List.length_drop, HM.out]; omega)
              have o9 : w8.ownsRow wx.heap.size 9 1 (.slice A8 (m + 1 + 0) c8) (m + 1 + 0) ((sortO (l.take (k + 1))).flatMap stCell) := by
                rw [TS.out]
                simpa [flat_append, List.flatMap_cons, List.append_assoc] using o8
              have b9 := below_app b4.out B8 zx
              obtain ⟨g8, rfl, _, _, _, _⟩ := own_addr o9 (by omega)
              obtain ⟨_, c8', e8, hmc8, _⟩ := own_slice o9
              obtain rfl : c8 = c8' := by injection e8
              go_wp2_with fail
              go_roundw
              case rel => exact ⟨k + 1, _, g8, c8, by omega, by go_num, rfl, hmc8, LT.out, by first | exact own_base o9 zx | exact own_below (own_base o9 zx) (by go_grown; done), by first | exact b9 | exact b9.drew⟩
              case measure => simp [intOf]; omega
          · have ck4 : ¬ c' - m = 0 := by omega
            have pcN : m ≤ c' := by omega
            have pc : (m : Int) ≤ c' := by omega
            have pmN : m ≤ m := by omega
            have pm : (m : Int) ≤ m := by omega
            have AD := fun j => add_at g' 0 j
            have zx := b4.out.size
            have gx : g < wx.heap.size := by omega
            have OE := own_empty wx wx.heap.size 9 1 (Nat.le_refl _)
            have OE2 : ((wx.alloc (Obj.cells #[.string s] 9)).drew.alloc (Obj.cells #[] 9)).ownsRow wx.heap.size 9 1 (.slice (some ⟨wx.heap.size + 1, 0, none⟩) 0 0) 0 [] := by simpa using own_empty (wx.alloc (Obj.cells #[.string s] 9)).drew wx.heap.size 9 1 (by simp)
            have OE3 : ((wx.alloc (Obj.cells #[.string s] 9)).alloc (Obj.cells #[] 9)).ownsRow wx.heap.size 9 1 (.slice (some ⟨wx.heap.size + 1, 0, none⟩) 0 0) 0 [] := by simpa using own_empty (wx.alloc (Obj.cells #[.string s] 9)) wx.heap.size 9 1 (by simp)
            have TD : ∀ A, RS wx 1 A 0 ((T.drop m).flatMap stCell) := fun A => by
              have e : T.drop m = [] := List.drop_eq_nil_of_le (by rw [HM.out]; exact Nat.le_refl _)
              rw [e]; exact RS.nil _ _ _
            have QB : RS ((wx.alloc (Obj.cells #[] 9)).drew.alloc (Obj.cells #[.string s] 9)) 1 (some ⟨wx.heap.size + 1, 0, none⟩) 1 (stCell s) := by simpa [stCell] using RS_new (w := (wx.alloc (Obj.cells #[] 9)).drew) (cs := #[.string s]) (t := 9) (n := 1) (size := 1) (by simp)
            have QD : RS ((wx.alloc (Obj.cells #[] 9)).alloc (Obj.cells #[.string s] 9)) 1 (some ⟨wx.heap.size + 1, 0, none⟩) 1 (stCell s) := RS_new2 (by simp)
            have QC : RS (wx.alloc (Obj.cells #[.string s] 9)) 1 (some ⟨wx.heap.size, 0, none⟩) 1 (stCell s) := RS_new (by simp)
            go_region_held3 (fun w' => w'.cell? ⟨g, off + k, none⟩ = some (.string s))
              (first
                | go_keep
                | (rw [b8.cell (by exact gx)]; assumption)
                | (rw [b7.cell (by exact gx)]; assumption)
                | (rw [b5.cell (by exact gx)]; assumption))
              (first
                | (refine step_app _ (by rfl) _ _ _ (by rfl) wx.heap.size 9 i0 _ 1 16 Try.underlying24 hi hz0 hz1 hz2 rfl (by omega) (.slice A7 (m + 1) c7) (m + 1) _ (by rfl) (by first | exact o7 | exact o7.drew | exact (o7.alloc _) | exact (o7.alloc _).drew | exact (o7.drew.alloc _) | exact (o7.drew.alloc _).drew) _ 0 _ _ (by rfl) ((TD _).below (by first | exact B7 | (refine Below.trans B7 ?_; have := B7.size; go_grown <;> omega))) (flat_one_cell stCell_one _) (by unfold maxLen; omega) (by omega) (by have := B7.size; first | omega | (simp; omega)) ?_; intro A8 c8 w8 o8 _ _ b8; have B8 : Below wx.heap.size wx w8 := (by refine Below.trans ?_ b8; first | exact B7 | (refine Below.trans B7 ?_; have := B7.size; go_grown <;> omega)))
                | (refine step_app _ (by rfl) _ _ _ (by rfl) wx.heap.size 9 i0 _ 1 16 Try.underlying24 hi hz0 hz1 hz2 rfl (by omega) (.slice A5 m c5) m _ (by rfl) (by first | exact o5 | exact o5.drew | exact (o5.alloc _) | exact (o5.alloc _).drew | exact (o5.drew.alloc _) | exact (o5.drew.alloc _).drew) _ 1 1 (stCell s) (by rfl) (by first | exact RS_new (w := w5) (cs := #[.string s]) (by simp) | exact (RS_new (w := w5) (cs := #[.string s]) (by simp)).drewN 1 | exact RS_new (w := w5.drew) (cs := #[.string s]) (by simp) | exact (RS_new (w := w5.drew) (cs := #[.string s]) (by simp)).drewN 1 | exact (RS_grown QB g5 (by simp <;> omega) (by simp [Value.ownBlock])) | exact (RS_grown QB g5 (by simp <;> omega) (by simp [Value.ownBlock])).drewN 1 | exact (RS_grown (QB.drewN 1) g5 (by simp <;> omega) (by simp [Value.ownBlock])) | exact (RS_grown (QB.drewN 1) g5 (by simp <;> omega) (by simp [Value.ownBlock])).drewN 1 | exact (RS_grown QD g5 (by simp <;> omega) (by simp [Value.ownBlock])) | exact (RS_grown QD g5 (by simp <;> omega) (by simp [Value.ownBlock])).drewN 1 | exact (RS_grown (QD.drewN 1) g5 (by simp <;> omega) (by simp [Value.ownBlock])) | exact (RS_grown (QD.drewN 1) g5 (by simp <;> omega) (by simp [Value.ownBlock])).drewN 1 | exact (RS_grown (QC.alloc _) g5 (by simp <;> omega) (by simp [Value.ownBlock])) | exact (RS_grown (QC.alloc _) g5 (by simp <;> omega) (by simp [Value.ownBlock])).drewN 1 | exact (RS_grown ((QC.alloc _).drewN 1) g5 (by simp <;> omega) (by simp [Value.ownBlock])) | exact (RS_grown ((QC.alloc _).drewN 1) g5 (by simp <;> omega) (by simp [Value.ownBlock])).drewN 1 | exact (RS_grown ((QC.drewN 1).alloc _) g5 (by simp <;> omega) (by simp [Value.ownBlock])) | exact (RS_grown ((QC.drewN 1).alloc _) g5 (by simp <;> omega) (by simp [Value.ownBlock])).drewN 1 | exact (RS_grown (((QC.drewN 1).alloc _).drewN 1) g5 (by simp <;> omega) (by simp [Value.ownBlock])) | exact (RS_grown (((QC.drewN 1).alloc _).drewN 1) g5 (by simp <;> omega) (by simp [Value.ownBlock])).drewN 1) (stCell_one _) (by unfold maxLen; omega) (by omega) (by have := B5.size; first | omega | (simp; omega)) ?_; intro A7 c7 w7 o7 _ _ b7; have B7 : Below wx.heap.size wx w7 := (by refine Below.trans ?_ b7; first | exact B5 | (refine Below.trans B5 ?_; have := B5.size; go_grown <;> omega)))
                | (refine step_app0 _ (by rfl) _ _ _ (by rfl) wx.heap.size 9 i0 _ 1 16 Try.underlying24 hi hz0 hz1 hz2 rfl (by omega) (.slice (some ⟨_, 0, none⟩) 0 0) (by rfl) (by first | exact OE | exact OE.drew | exact (OE.alloc _) | exact (OE.alloc _).drew | exact (OE.drew.alloc _) | exact (OE.drew.alloc _).drew | exact OE2 | exact OE2.drew | exact OE3 | exact OE3.drew) _ m _ _ (by rfl) (TT.below (by go_grown)) (flat_one_cell stCell_one _) (by unfold maxLen; omega) (by omega) (by simp <;> omega) ?_; intro A5 c5 w5 o5 g5 _ b5; have B5 : Below wx.heap.size wx w5 := (by refine Below.trans ?_ b5; go_grown <;> omega)))
            all_goals
              have LT := Lib.hid (show (sortO (l.take (k + 1))).length = m + 1 + 0 by rw [TS.out]; simp only [List.length_append, List.length_cons, List.length_take, List.length_drop, HM.out]; omega)
              have o9 : w8.ownsRow wx.heap.size 9 1 (.slice A8 (m + 1 + 0) c8) (m + 1 + 0) ((sortO (l.take (k + 1))).flatMap stCell) := by
                rw [TS.out]
                simpa [flat_append, List.flatMap_cons, List.append_assoc] using o8
              have b9 := below_app b4.out B8 zx
              obtain ⟨g8, rfl, _, _, _, _⟩ := own_addr o9 (by omega)
              obtain ⟨_, c8', e8, hmc8, _⟩ := own_slice o9
              obtain rfl : c8 = c8' := by injection e8
              go_wp2_with fail
              go_roundw
              case rel => exact ⟨k + 1, _, g8, c8, by omega, by go_num, rfl, hmc8, LT.out, by first | exact own_base o9 zx | exact own_below (own_base o9 zx) (by go_grown; done), by first | exact b9 | exact b9.drew⟩
              case measure => simp [intOf]; omega
    · obtain rfl : n = k := by omega
      have TK := Lib.hid (show l.take n = l by rw [List.take_of_length_le (by rw [hl.out]; exact Nat.le_refl _)])
      rw [TK.out] at HM ho
      go_wp2_with fail
      rw [HM.out]
      go_ret
      exact ⟨_, _, rfl, ho, hb⟩
end Go.Proofs.Ytaldlinekipblaa
