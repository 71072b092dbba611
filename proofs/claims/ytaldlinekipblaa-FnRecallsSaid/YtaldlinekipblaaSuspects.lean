/- The walks of SuspectsOf. No condition. -/
import Derived.Test.YtaldlinekipblaaRecall
namespace Go.Proofs.Ytaldlinekipblaa
open Go.ChangeShapes Go.WideShapes Go.ChangeAt Go.RowKit

theorem susp_no {us : List Us} {sh : List Sh} {cs : List ByteArray} (h : suspOk us sh cs = false) : suspL us sh cs = [] := by
  unfold suspL; rw [if_neg (by rw [h]; simp)]
theorem susp_yes {us : List Us} {sh : List Sh} {cs : List ByteArray} (h : suspOk us sh cs = true) : suspL us sh cs = (sortO (candI us sh)).filter (suspect us sh cs) := by
  unfold suspL; rw [if_pos h]
def twoL (us : List Us) : List ByteArray := us.flatMap fun u => [u.frm, u.into]
theorem two_succ {us : List Us} {k : Nat} {u : Us} (h : us[k]? = some u) : twoL (us.take (k + 1)) = twoL (us.take k) ++ [u.frm, u.into] := by
  obtain ⟨hk, rfl⟩ := List.getElem?_eq_some_iff.1 h
  unfold twoL
  rw [List.take_succ_eq_append_getElem hk, List.flatMap_append]; rfl
theorem map_succ {α β : Type} {l : List α} {k : Nat} {x : α} (f : α → β) (h : l[k]? = some x) : (l.take (k + 1)).map f = (l.take k).map f ++ [f x] := by
  obtain ⟨hk, rfl⟩ := List.getElem?_eq_some_iff.1 h
  rw [List.take_succ_eq_append_getElem hk, List.map_append]; rfl
theorem filter_yes {l : List ByteArray} {k : Nat} {x : ByteArray} {p : ByteArray → Bool} (h : l[k]? = some x) (hp : p x = true) : (l.take (k + 1)).filter p = (l.take k).filter p ++ [x] := by
  obtain ⟨hk, rfl⟩ := List.getElem?_eq_some_iff.1 h
  rw [List.take_succ_eq_append_getElem hk, List.filter_append, List.filter_cons, if_pos hp]; rfl
theorem filter_no {l : List ByteArray} {k : Nat} {x : ByteArray} {p : ByteArray → Bool} (h : l[k]? = some x) (hp : p x = false) : (l.take (k + 1)).filter p = (l.take k).filter p := by
  obtain ⟨hk, rfl⟩ := List.getElem?_eq_some_iff.1 h
  rw [List.take_succ_eq_append_getElem hk, List.filter_append, List.filter_cons, if_neg (by rw [hp]; simp)]; simp
theorem all_succ {l : List ByteArray} {k : Nat} {x : ByteArray} (p : ByteArray → Bool) (h : l[k]? = some x) : (l.take (k + 1)).all p = ((l.take k).all p && p x) := by
  obtain ⟨hk, rfl⟩ := List.getElem?_eq_some_iff.1 h
  rw [List.take_succ_eq_append_getElem hk, List.all_append]; simp
def hasAll (R : List ByteArray) (cs : List ByteArray) (k : Nat) : Bool := (cs.take k).all fun c => hasB c R
theorem hasAll_zero (R cs : List ByteArray) : hasAll R cs 0 = true := by simp [hasAll]
theorem hasAll_succ {R cs : List ByteArray} {k : Nat} {x : ByteArray} (h : cs[k]? = some x) : hasAll R cs (k + 1) = (hasAll R cs k && hasB x R) := all_succ _ h
theorem hasAll_end (us : List Us) (sh : List Sh) (cs : List ByteArray) (b : ByteArray) {n : Nat} (h : cs.length = n) : hasAll (recallL us sh b) cs n = suspect us sh cs b := by
  unfold hasAll suspect; rw [List.take_of_length_le (by omega)]
theorem susp_uses {us : List Us} {sh : List Sh} {cs : List ByteArray} (h : areUses us = false) : suspOk us sh cs = false := by simp [suspOk, h]
theorem susp_ships {us : List Us} {sh : List Sh} {cs : List ByteArray} (h : areShips sh = false) : suspOk us sh cs = false := by simp [suspOk, h]
theorem susp_size {us : List Us} {sh : List Sh} {cs : List ByteArray} (h : ¬ (1 ≤ cs.length ∧ cs.length ≤ 24)) : suspOk us sh cs = false := by
  simp only [suspOk, Bool.and_eq_false_iff, decide_eq_false_iff_not]
  by_cases h1 : 1 ≤ cs.length
  · exact .inr (.inr (.inr fun h2 => h ⟨h1, h2⟩))
  · exact .inr (.inr (.inl h1))
theorem susp_ok {us : List Us} {sh : List Sh} {cs : List ByteArray} (h1 : areUses us = true) (h2 : areShips sh = true) (h : 1 ≤ cs.length ∧ cs.length ≤ 24) : suspOk us sh cs = true := by
  simp [suspOk, h1, h2, h]
theorem candS_succ {us : List Us} {sh : List Sh} {k : Nat} {x : Sh} (h : sh[k]? = some x) : candS us (sh.take (k + 1)) = candS us (sh.take k) ++ x.batch :: restL true us x.batch := by
  obtain ⟨hk, rfl⟩ := List.getElem?_eq_some_iff.1 h
  unfold candS
  rw [List.take_succ_eq_append_getElem hk, List.flatMap_append]; simp
theorem candS_len (us : List Us) : ∀ sh : List Sh, (candS us sh).length ≤ sh.length * (us.length + 1)
  | [] => by simp [candS]
  | x :: sh => by
    have ih := candS_len us sh
    have h1 := rest_len true us x.batch
    have h2 := (reach_len true us x.batch).2
    have e : candS us (x :: sh) = (x.batch :: restL true us x.batch) ++ candS us sh := by simp [candS]
    rw [e, List.length_append, List.length_cons, List.length_cons, Nat.succ_mul]; omega
set_option maxRecDepth 100000 in
set_option maxHeartbeats 8000000 in
theorem implSuspectsOf (A : Option Addr) (n c : Nat) (us : List Us) (A' : Option Addr) (n' c' : Nat) (sh : List Sh) (Ac : Option Addr) (nc cc : Nat) (cs : List ByteArray) (w : World) (hr : RS w 3 A n (us.flatMap usCell)) (hn : n ≤ 1048600) (hr' : RS w 2 A' n' (sh.flatMap shCell)) (hn' : n' ≤ 1048600)
    (hrc : RS w 1 Ac nc (cs.flatMap stCell)) (hnc : nc ≤ 1048600) (hs : usSmall us) (hs' : shsSmall sh) :
    Calls Try.prog 28 #[.slice A n c, .slice A' n' c', .slice Ac nc cc] w fun e w' => ∃ A' c', e = .returned (.slice A' (suspL us sh cs).length c') ∧ w'.ownsRow w.heap.size 9 1 (.slice A' (suspL us sh cs).length c') (suspL us sh cs).length ((suspL us sh cs).flatMap stCell) ∧ Below w.heap.size w w' := by
  have hl := Lib.hid (hr.flatLen usCell_len (by omega))
  have hl' := Lib.hid (hr'.flatLen shCell_len (by omega))
  have hlc := Lib.hid (hrc.flatLen stCell_len (by omega))
  obtain ⟨i0, hi, hz0, hz1, hz2⟩ := info_parts stInfo
  have US := Lib.hid hs; have SS := Lib.hid hs'; clear hs hs'
  cases h : areUses us
  · have E := Lib.hid (susp_no (susp_uses (sh := sh) (cs := cs) h))
    have H := Lib.hid h; clear h
    rw [E.out]
    go_enter Try.func28, Try.ntmps28
    go_wp2_with fail
    refine (implAreUses _ _ _ us _ hr hn US.out).mono ?_; rw [H.out]; rintro e w1 ⟨rfl, hb1⟩
    go_wp2_with fail
    go_ret
    exact ⟨none, 0, rfl, own_none _ _ _ _, hb1⟩
  · cases h2 : areShips sh
    · have E := Lib.hid (susp_no (susp_ships (us := us) (cs := cs) h2))
      have H := Lib.hid h; have H2 := Lib.hid h2; clear h h2
      rw [E.out]
      go_enter Try.func28, Try.ntmps28
      go_wp2_with fail
      refine (implAreUses _ _ _ us _ hr hn US.out).mono ?_; rw [H.out]; rintro e w1 ⟨rfl, hb1⟩
      go_wp2_with fail
      refine (implAreShips _ _ _ sh _ (hr'.below hb1) hn' SS.out).mono ?_; rw [H2.out]; rintro e w2 ⟨rfl, hb2⟩
      have b2 := below_then hb1 hb2
      go_wp2_with fail
      go_ret
      exact ⟨none, 0, rfl, own_none _ _ _ _, b2⟩
    · cases h3 : inB (nc : Int) 1 24
      · have E := Lib.hid (susp_no (susp_size (us := us) (sh := sh) (cs := cs) (by rw [hlc.out]; have := inB_false.1 h3; omega)))
        have H := Lib.hid h; have H2 := Lib.hid h2; clear h h2
        rw [E.out]
        go_enter Try.func28, Try.ntmps28
        go_wp2_with fail
        refine (implAreUses _ _ _ us _ hr hn US.out).mono ?_; rw [H.out]; rintro e w1 ⟨rfl, hb1⟩
        go_wp2_with fail
        refine (implAreShips _ _ _ sh _ (hr'.below hb1) hn' SS.out).mono ?_; rw [H2.out]; rintro e w2 ⟨rfl, hb2⟩
        have b2 := below_then hb1 hb2
        go_wp2_with fail
        refine (impl_in _ _ _ _).mono ?_; rw [h3]; rintro e w3 ⟨rfl, rfl⟩
        go_wp2_with fail
        go_ret
        exact ⟨none, 0, rfl, own_none _ _ _ _, b2⟩
      · have nn := inB_true.1 h3
        have n24 := (uses_true h).2
        have s24 := ships_len h2
        rw [hl.out] at n24; rw [hl'.out] at s24
        have E := Lib.hid (susp_yes (susp_ok h h2 (show 1 ≤ cs.length ∧ cs.length ≤ 24 by rw [hlc.out]; omega)))
        obtain ⟨T, hT⟩ : ∃ T, sortO (candI us sh) = T := ⟨_, rfl⟩
        have TL := sortO_len (candI us sh)
        have CL : (candI us sh).length = n * 2 + n' := by simp only [candI, List.length_append, List.length_map, two_len, hl.out, hl'.out]
        rw [hT, CL] at TL
        have H := Lib.hid h; have H2 := Lib.hid h2; clear h h2 CL
        rw [hT] at E
        rw [E.out]
        go_enter Try.func28, Try.ntmps28
        go_wp2_with fail
        refine (implAreUses _ _ _ us _ hr hn US.out).mono ?_; rw [H.out]; rintro e w1 ⟨rfl, hb1⟩
        go_wp2_with fail
        refine (implAreShips _ _ _ sh _ (hr'.below hb1) hn' SS.out).mono ?_; rw [H2.out]; rintro e w2 ⟨rfl, hb2⟩
        have B2 := Lib.hid (below_then hb1 hb2)
        clear hb2 hb1
        go_wp2_with fail
        refine (impl_in _ _ _ _).mono ?_; rw [h3]; rintro e w3 ⟨rfl, rfl⟩
        clear h3
        have OE := own_base (own_empty w2 w2.heap.size 9 1 (Nat.le_refl _)) B2.out.size
        have BE := B2.out.alloc B2.out.size (Obj.cells #[] 9)
        go_wp2_with fail
        go_loopw [7, 36] (fun v i wr => ∃ (k : Nat) (A' : Option Addr) (c' : Nat), k ≤ n ∧ i = .int .i64 k ∧ v = .slice A' (k * 2) c' ∧ wr.ownsRow w.heap.size 9 1 (.slice A' (k * 2) c') (k * 2) ((twoL (us.take k)).flatMap stCell) ∧ Below w.heap.size w wr) (fun _ i _ => n - (intOf i).toNat)
        case atStart => exact ⟨0, _, _, Nat.zero_le _, rfl, rfl, OE, BE⟩
        case round =>
          obtain ⟨k, A4, c4, hk, rfl, rfl, ho, hb⟩ := hrel
          clear OE BE
          have zb := hb.size
          by_cases hlt : k < n
          · obtain ⟨g, off, rfl, ⟨frm, into, q⟩, hx, c0, c1, c2⟩ := (hr.below hb).usAt hlt
            simp only at c0 c1 c2
            have TW := Lib.hid (two_succ hx)
            simp only at TW
            clear hx
            have b1 := Lib.hid (hb.alloc zb (Obj.cells #[.string frm, .string into, .int .i64 q] 56))
            have o1 := ho.alloc (Obj.cells #[.string frm, .string into, .int .i64 q] 56)
            have z1 := b1.out.size
            clear ho
            go_wp2_with (at_builtin; refine wpList_app _ rfl _ _ _ rfl w.heap.size 9 i0 _ 1 16 Try.underlying24 hi hz0 hz1 hz2 rfl (by omega) _ (k * 2) _ rfl (o1.alloc _) _ 2 2 [.string frm, .string into] rfl (RS_new2 (by simp)) (by simp [Value.oneCell']) (by unfold maxLen; omega) (by omega) (by simp; omega) ?_; intro A5 c5 w5 o5 g5 at5 b5; have B5 := Lib.hid ((b1.out.alloc z1 (Obj.cells #[.string frm, .string into] 9)).trans b5); clear g5 at5 b5)
            have o6 : w5.ownsRow w.heap.size 9 1 (.slice A5 ((k + 1) * 2) c5) ((k + 1) * 2) ((twoL (us.take (k + 1))).flatMap stCell) := by
              rw [TW.out, flat_append, show (k + 1) * 2 = k * 2 + 2 by omega]; exact o5
            clear o5
            go_roundw
            case rel => exact ⟨k + 1, A5, c5, by omega, by go_num, by rw [show (k + 1) * 2 = k * 2 + 2 by omega], o6, B5.out⟩
            case measure => simp [intOf]; omega
          · obtain rfl : n = k := by omega
            have TK := Lib.hid (show us.take n = us by rw [List.take_of_length_le (by rw [hl.out]; exact Nat.le_refl _)])
            rw [TK.out] at ho
            go_wp2_with fail
            go_loopw [7, 50] (fun v i wr => ∃ (k : Nat) (A' : Option Addr) (c' : Nat), k ≤ n' ∧ i = .int .i64 k ∧ v = .slice A' (n * 2 + k) c' ∧ wr.ownsRow w.heap.size 9 1 (.slice A' (n * 2 + k) c') (n * 2 + k) ((twoL us ++ (sh.take k).map (·.batch)).flatMap stCell) ∧ Below w.heap.size w wr) (fun _ i _ => n' - (intOf i).toNat)
            case atStart => exact ⟨0, _, _, Nat.zero_le _, rfl, rfl, by simpa using ho, hb⟩
            case round =>
              obtain ⟨k, A4, c4, hk, rfl, rfl, ho2, hb2⟩ := hrel
              clear ho hb zb
              have zb := hb2.size
              by_cases hlt : k < n'
              · obtain ⟨g, off, rfl, ⟨batch, cust⟩, hx, c0, c1⟩ := (hr'.below hb2).shAt hlt
                simp only at c0 c1
                have TW := Lib.hid (map_succ (·.batch) hx)
                simp only at TW
                clear hx
                have b1 := Lib.hid (hb2.alloc zb (Obj.cells #[.string batch, .string cust] 51))
                have o1 := ho2.alloc (Obj.cells #[.string batch, .string cust] 51)
                have z1 := b1.out.size
                clear ho2
                go_wp2_with (at_builtin; refine wpList_app _ rfl _ _ _ rfl w.heap.size 9 i0 _ 1 16 Try.underlying24 hi hz0 hz1 hz2 rfl (by omega) _ (n * 2 + k) _ rfl (o1.alloc _) _ 1 1 (stCell batch) rfl (RS_new2 (by simp)) (stCell_one _) (by unfold maxLen; omega) (by omega) (by simp; omega) ?_; intro A5 c5 w5 o5 g5 at5 b5; have B5 := Lib.hid ((b1.out.alloc z1 (Obj.cells #[.string batch] 9)).trans b5); clear g5 at5 b5)
                rw [← flat_one stCell, ← flat_append, List.append_assoc, ← TW.out] at o5
                go_roundw
                case rel => exact ⟨k + 1, A5, c5, by omega, by go_num, rfl, o5, B5.out⟩
                case measure => simp [intOf]; omega
              · obtain rfl : n' = k := by omega
                have TK := Lib.hid (show sh.take n' = sh by rw [List.take_of_length_le (by rw [hl'.out]; exact Nat.le_refl _)])
                rw [TK.out] at ho2
                have CI := Lib.hid (show twoL us ++ sh.map (·.batch) = candI us sh from rfl)
                rw [CI.out] at ho2
                -- out, and the candidates in order
                have OE := own_empty wr wr.heap.size 9 1 (Nat.le_refl _)
                have r2 := (RS.of_own ho2).alloc (Obj.cells #[] 9)
                have OC := implOnce A4 (n * 2 + n') c4 (candI us sh) (wr.alloc (Obj.cells #[] 9)) r2 (by omega)
                rw [hT] at OC
                clear ho2 r2
                go_wp2_with fail
                refine OC.mono ?_; rintro e w5 ⟨A5, c5, rfl, o5, hb5⟩
                clear OC
                obtain ⟨tn, htn⟩ : ∃ t, T.length = t := ⟨_, rfl⟩
                rw [htn] at o5 TL
                rw [htn]
                have O5 := ((Owns.one OE).cons hb5 o5 (Nat.le_refl _) (by simp)).mono zb (Nat.le_refl _)
                have B5 := Lib.hid (below_app hb2 (below_then (below_box wr _) hb5) zb)
                clear OE o5 hb5 hb2 zb
                go_wp2_with fail
                go_loopw [12, 64] (fun v i wr => ∃ (k m : Nat) (A' : Option Addr) (c' : Nat), k ≤ tn ∧ i = .int .i64 k ∧ v = .slice A' m c' ∧ m ≤ k ∧ Hid (((T.take k).filter (suspect us sh cs)).length = m) ∧
                    Owns wr w.heap.size wr.heap.size [⟨9, 1, .slice A5 tn c5, tn, T.flatMap stCell⟩, ⟨9, 1, .slice A' m c', m, ((T.take k).filter (suspect us sh cs)).flatMap stCell⟩] ∧ Below w.heap.size w wr) (fun _ i _ => tn - (intOf i).toNat)
                case atStart => exact ⟨0, 0, _, _, Nat.zero_le _, rfl, rfl, Nat.le_refl _, rfl, O5, B5.out⟩
                case round =>
                  obtain ⟨k, m, A6, c6, hk, rfl, rfl, hmk, HM, O, hb⟩ := hrel
                  clear O5
                  have zb := hb.size
                  have hre := RS.of_own (O.get (r := ⟨9, 1, .slice A5 tn c5, tn, T.flatMap stCell⟩) (by simp))
                  by_cases hlt : k < tn
                  · obtain ⟨g, off, rfl, b, hx, hcb⟩ := hre.stAt hlt
                    have FY := Lib.hid (filter_yes (p := suspect us sh cs) hx); have FN := Lib.hid (filter_no (p := suspect us sh cs) hx)
                    clear hx
                    have RL := recall_len us sh b
                    rw [hl'.out] at RL
                    have RC := implRecallOf A n c us A' n' c' sh b wr (hr.below hb) hn (hr'.below hb) hn' US.out SS.out
                    have HE := Lib.hid (hasAll_end us sh cs b hlc.out)
                    obtain ⟨R, hR⟩ : ∃ R, recallL us sh b = R := ⟨_, rfl⟩
                    rw [hR] at RC RL HE
                    go_wp2_with fail
                    refine RC.mono ?_; rintro e w7 ⟨A7, c7, rfl, o7, hb7⟩
                    clear RC
                    have O7 := (O.below hb7).top
                    have B7 := Lib.hid (below_app hb hb7 zb)
                    have r7 := RS.of_own o7
                    clear o7 hb7 O hcb hre
                    go_wp2_with fail
                    go_loopw [16, 74] (fun o i wr => ∃ j : Nat, j ≤ nc ∧ i = .int .i64 j ∧ o = .bool (hasAll R cs j) ∧ w7 = wr) (fun _ i _ => nc - (intOf i).toNat)
                    case atStart => exact ⟨0, Nat.zero_le _, rfl, by rw [hasAll_zero], rfl⟩
                    case round =>
                      obtain ⟨j, hj, rfl, rfl, rfl⟩ := hrel
                      by_cases hltc : j < nc
                      · obtain ⟨g3, off3, rfl, cx, hcx, hcc⟩ := (hrc.below B7.out).stAt hltc
                        have HS := Lib.hid (hasAll_succ (R := R) hcx)
                        clear hcx
                        cases ha : hasAll R cs j
                        · rw [ha, Bool.false_and] at HS
                          go_wp2_with fail
                          go_roundw
                          case rel => exact ⟨j + 1, by omega, by go_num, by rw [HS.out], by trivial⟩
                          case measure => simp [intOf]; omega
                        · rw [ha, Bool.true_and] at HS
                          by_cases hin : cx ∈ R
                          · have pp := posB_in hin
                            rw [hasB_iff.2 hin] at HS
                            go_wp2_with fail
                            refine (implIndexOf _ _ _ R cx _ r7 (by omega)).mono ?_; rintro e w8 ⟨rfl, rfl⟩
                            go_wp2_with fail
                            go_roundw
                            case rel => exact ⟨j + 1, by omega, by go_num, by rw [HS.out], by trivial⟩
                            case measure => simp [intOf]; omega
                          · have pp := posB_none hin
                            rw [hasB_no.2 hin] at HS
                            go_wp2_with fail
                            refine (implIndexOf _ _ _ R cx _ r7 (by omega)).mono ?_; rintro e w8 ⟨rfl, rfl⟩
                            go_wp2_with fail
                            go_roundw
                            case rel => exact ⟨j + 1, by omega, by go_num, by rw [HS.out], by trivial⟩
                            case measure => simp [intOf]; omega
                      · obtain rfl : nc = j := by omega
                        rw [HE.out]
                        have z7 := B7.out.size
                        cases hsp : suspect us sh cs b
                        · have FE := Lib.hid (FN.out hsp)
                          go_wp2_with fail
                          go_roundw
                          case rel => exact ⟨k + 1, m, A6, c6, by omega, by go_num, rfl, by omega, by rw [Hid, FE.out]; exact HM.out, by rw [FE.out]; exact O7, B7.out⟩
                          case measure => simp [intOf]; omega
                        · have FE := Lib.hid (FY.out hsp)
                          have of := O7.get (r := ⟨9, 1, .slice A6 m c6, m, ((T.take k).filter (suspect us sh cs)).flatMap stCell⟩) (by simp)
                          go_wp2_with (at_builtin; refine wpList_app _ rfl _ _ _ rfl w.heap.size 9 i0 _ 1 16 Try.underlying24 hi hz0 hz1 hz2 rfl (by omega) _ m _ rfl (of.alloc _) _ 1 1 (stCell b) rfl (RS_new (by simp)) (stCell_one _) (by unfold maxLen; omega) (by omega) (by simp; omega) ?_; intro A9 c9 w9 o9 g9 at9 b9; have O9 := (O7.below (below_box w7 (Obj.cells #[.string b] 9))).turn (i := 1) rfl g9 o9 (own_sides at9); have B9 := Lib.hid ((B7.out.alloc z7 (Obj.cells #[.string b] 9)).trans b9); clear g9 at9 b9 o9)
                          simp only [List.set_cons_zero, List.set_cons_succ] at O9
                          rw [← flat_one stCell, ← flat_append, ← FE.out] at O9
                          have LE := Lib.hid (show ((T.take (k + 1)).filter (suspect us sh cs)).length = m + 1 by rw [FE.out]; simp [HM.out])
                          go_roundw
                          case rel => exact ⟨k + 1, m + 1, A9, c9, by omega, by go_num, rfl, by omega, LE.out, O9, B9.out⟩
                          case measure => simp [intOf]; omega
                  · obtain rfl : tn = k := by omega
                    have TK2 := Lib.hid (show T.take tn = T by rw [List.take_of_length_le (by rw [htn]; exact Nat.le_refl _)])
                    rw [TK2.out] at O HM
                    have of := O.get (r := ⟨9, 1, .slice A6 m c6, m, (T.filter (suspect us sh cs)).flatMap stCell⟩) (by simp)
                    go_wp2_with fail
                    go_ret
                    rw [HM.out]
                    exact ⟨A6, c6, rfl, of, hb⟩
set_option maxRecDepth 100000 in
set_option maxHeartbeats 8000000 in
theorem specSuspectsOf (A : Option Addr) (n c : Nat) (us : List Us) (A' : Option Addr) (n' c' : Nat) (sh : List Sh) (Ac : Option Addr) (nc cc : Nat) (cs : List ByteArray) (w : World) (hr : RS w 3 A n (us.flatMap usCell)) (hn : n ≤ 1048600) (hr' : RS w 2 A' n' (sh.flatMap shCell)) (hn' : n' ≤ 1048600)
    (hrc : RS w 1 Ac nc (cs.flatMap stCell)) (hnc : nc ≤ 1048600) (hs : usSmall us) (hs' : shsSmall sh) :
    Calls Try.prog 26 #[.slice A n c, .slice A' n' c', .slice Ac nc cc] w fun e w' => ∃ A' c', e = .returned (.slice A' (suspL us sh cs).length c') ∧ w'.ownsRow w.heap.size 9 1 (.slice A' (suspL us sh cs).length c') (suspL us sh cs).length ((suspL us sh cs).flatMap stCell) ∧ Below w.heap.size w w' := by
  have hl := Lib.hid (hr.flatLen usCell_len (by omega))
  have hl' := Lib.hid (hr'.flatLen shCell_len (by omega))
  have hlc := Lib.hid (hrc.flatLen stCell_len (by omega))
  obtain ⟨i0, hi, hz0, hz1, hz2⟩ := info_parts stInfo
  have US := Lib.hid hs; have SS := Lib.hid hs'; clear hs hs'
  cases h : areUses us
  · have E := Lib.hid (susp_no (susp_uses (sh := sh) (cs := cs) h))
    have H := Lib.hid h; clear h
    rw [E.out]
    go_enter Try.func26, Try.ntmps26
    go_wp2_with fail
    refine (specAreUses _ _ _ us _ hr hn US.out).mono ?_; rw [H.out]; rintro e w1 ⟨rfl, hb1⟩
    have OE := own_base (own_empty w1 w1.heap.size 9 1 (Nat.le_refl _)) hb1.size
    have b2 := hb1.alloc hb1.size (Obj.cells #[] 9)
    go_wp2_with fail
    go_ret
    exact ⟨_, _, rfl, OE, b2⟩
  · cases h2 : areShips sh
    · have E := Lib.hid (susp_no (susp_ships (us := us) (cs := cs) h2))
      have H := Lib.hid h; have H2 := Lib.hid h2; clear h h2
      rw [E.out]
      go_enter Try.func26, Try.ntmps26
      go_wp2_with fail
      refine (specAreUses _ _ _ us _ hr hn US.out).mono ?_; rw [H.out]; rintro e w1 ⟨rfl, hb1⟩
      go_wp2_with fail
      refine (specAreShips _ _ _ sh _ (hr'.below hb1) hn' SS.out).mono ?_; rw [H2.out]; rintro e w2 ⟨rfl, hb2⟩
      have b2 := below_then hb1 hb2
      have OE := own_base (own_empty w2 w2.heap.size 9 1 (Nat.le_refl _)) b2.size
      have b3 := b2.alloc b2.size (Obj.cells #[] 9)
      go_wp2_with fail
      go_ret
      exact ⟨_, _, rfl, OE, b3⟩
    · cases h3 : inB (nc : Int) 1 24
      · have E := Lib.hid (susp_no (susp_size (us := us) (sh := sh) (cs := cs) (by rw [hlc.out]; have := inB_false.1 h3; omega)))
        have hnot := inB_false.1 h3
        have H := Lib.hid h; have H2 := Lib.hid h2; clear h h2 h3
        rw [E.out]
        rcases (show nc = 0 ∨ 24 < nc by omega) with h0 | h0
        · subst h0
          clear hnot
          go_enter Try.func26, Try.ntmps26
          go_wp2_with fail
          refine (specAreUses _ _ _ us _ hr hn US.out).mono ?_; rw [H.out]; rintro e w1 ⟨rfl, hb1⟩
          go_wp2_with fail
          refine (specAreShips _ _ _ sh _ (hr'.below hb1) hn' SS.out).mono ?_; rw [H2.out]; rintro e w2 ⟨rfl, hb2⟩
          have b2 := below_then hb1 hb2
          have OE := own_base (own_empty w2 w2.heap.size 9 1 (Nat.le_refl _)) b2.size
          have b3 := b2.alloc b2.size (Obj.cells #[] 9)
          go_wp2_with fail
          go_ret
          exact ⟨_, _, rfl, OE, b3⟩
        · have p2 : ((nc : Int) == 0) = false := by simp; omega
          have p3 : (24 : Int) < nc := by omega
          clear hnot
          go_enter Try.func26, Try.ntmps26
          go_wp2_with fail
          refine (specAreUses _ _ _ us _ hr hn US.out).mono ?_; rw [H.out]; rintro e w1 ⟨rfl, hb1⟩
          go_wp2_with fail
          refine (specAreShips _ _ _ sh _ (hr'.below hb1) hn' SS.out).mono ?_; rw [H2.out]; rintro e w2 ⟨rfl, hb2⟩
          have b2 := below_then hb1 hb2
          have OE := own_base (own_empty w2 w2.heap.size 9 1 (Nat.le_refl _)) b2.size
          have b3 := b2.alloc b2.size (Obj.cells #[] 9)
          go_wp2_with fail
          go_ret
          exact ⟨_, _, rfl, OE, b3⟩
      · have nn := inB_true.1 h3
        have n24 := (uses_true h).2
        have s24 := ships_len h2
        rw [hl.out] at n24; rw [hl'.out] at s24
        have E := Lib.hid (susp_yes (susp_ok h h2 (show 1 ≤ cs.length ∧ cs.length ≤ 24 by rw [hlc.out]; omega)))
        obtain ⟨T, hT⟩ : ∃ T, sortO (candS us sh) = T := ⟨_, rfl⟩
        have SE := susp_same (us := us) (sh := sh) (cs := cs) (show 1 ≤ cs.length by rw [hlc.out]; omega)
        rw [← SE, hT] at E
        have TL := sortO_len (candS us sh)
        have CL := candS_len us sh
        rw [hl.out, hl'.out] at CL
        have CB : n' * (n + 1) ≤ 24 * 25 := Nat.mul_le_mul s24 (by omega)
        rw [hT] at TL
        have H := Lib.hid h; have H2 := Lib.hid h2; clear h h2 SE
        rw [E.out]
        have p1 : ¬ (nc : Int) = 0 := by omega
        have p2 : ((nc : Int) == 0) = false := by simp; omega
        have p3 : ¬ (24 : Int) < nc := by omega
        clear h3
        go_enter Try.func26, Try.ntmps26
        go_wp2_with fail
        refine (specAreUses _ _ _ us _ hr hn US.out).mono ?_; rw [H.out]; rintro e w1 ⟨rfl, hb1⟩
        go_wp2_with fail
        refine (specAreShips _ _ _ sh _ (hr'.below hb1) hn' SS.out).mono ?_; rw [H2.out]; rintro e w2 ⟨rfl, hb2⟩
        have B2 := Lib.hid (below_then hb1 hb2)
        clear hb2 hb1
        have OE := own_base (own_empty w2 w2.heap.size 9 1 (Nat.le_refl _)) B2.out.size
        have BE := B2.out.alloc B2.out.size (Obj.cells #[] 9)
        go_wp2_with fail
        go_loopw [7, 8] (fun v i wr => ∃ (k m : Nat) (A' : Option Addr) (c' : Nat), k ≤ n' ∧ i = .int .i64 k ∧ v = .slice A' m c' ∧ m ≤ k * (n + 1) ∧ Hid ((candS us (sh.take k)).length = m) ∧ wr.ownsRow w.heap.size 9 1 (.slice A' m c') m ((candS us (sh.take k)).flatMap stCell) ∧ Below w.heap.size w wr) (fun _ i _ => n' - (intOf i).toNat)
        case atStart => exact ⟨0, 0, _, _, Nat.zero_le _, rfl, rfl, Nat.zero_le _, rfl, OE, BE⟩
        case round =>
          obtain ⟨k, m, A4, c4, hk, rfl, rfl, hm, HM, ho, hb⟩ := hrel
          clear OE BE
          have zb := hb.size
          by_cases hlt : k < n'
          · obtain ⟨g, off, rfl, ⟨batch, cust⟩, hx, c0, c1⟩ := (hr'.below hb).shAt hlt
            simp only at c0 c1
            have TW := Lib.hid (candS_succ (us := us) hx)
            simp only at TW
            clear hx
            have gl : (⟨g, off + k * 2, none⟩ : Addr).block < wr.heap.size := World.block_lt_of_cell? wr _ c0
            have KN : k * (n + 1) ≤ 24 * 25 := Nat.mul_le_mul (by omega) (by omega)
            have KS : (k + 1) * (n + 1) = k * (n + 1) + (n + 1) := Nat.succ_mul _ _
            obtain ⟨kk, hkk⟩ : ∃ q, k * (n + 1) = q := ⟨_, rfl⟩
            rw [hkk] at hm KN KS
            have i1 : (0 : Int) ≤ k := by omega
            have i2 : (k : Int) < n' := by omega
            clear CB hkk
            have GB : ∀ j, (Value.slice A4 m c4).ownBlock = some j → w.heap.size ≤ j := fun j hj => (ho.lt j hj).1
            obtain ⟨g0, off0, e0, _, _, c00, _⟩ := hr'.shAt hlt
            obtain ⟨rfl, rfl⟩ : g = g0 ∧ off = off0 := by simpa using e0
            have g0l : g < w.heap.size := World.block_lt_of_cell? w _ c00
            clear e0 c00
            go_wp2_with (at_builtin; refine wpList_app _ rfl _ _ _ rfl w.heap.size 9 i0 _ 1 16 Try.underlying24 hi hz0 hz1 hz2 rfl (by omega) _ m _ rfl (ho.alloc _) _ 1 1 (stCell batch) rfl (RS_new (by simp)) (stCell_one _) (by unfold maxLen; omega) (by omega) (by simp; omega) ?_; intro A5 c5 w5 o5 g5 at5 b5; have B5 := Lib.hid ((hb.alloc zb (Obj.cells #[.string batch] 9)).trans b5); have q0 : w5.cell? ⟨g, off + k * 2, none⟩ = some (.string batch) := (b5.cell (p := ⟨g, off + k * 2, none⟩) g0l).trans (cell_alloc c0 _); clear g5 at5 b5)
            refine (specWalkUp _ _ _ us batch _ (hr.below B5.out) hn).mono ?_; rintro e w6 ⟨A6, m6, c6, rfl, hm6, r6, hb6⟩
            have o6 := own_below o5 hb6
            have L6 := Lib.hid (show m6 = (restL true us batch).length from (r6.flatLen stCell_len (by omega)).symm)
            have B6 := Lib.hid (below_app B5.out hb6 B5.out.size)
            have z6 := B6.out.size
            clear hb6 o5 q0
            go_wp2_with (at_builtin; refine wpList_app _ rfl _ _ _ rfl w.heap.size 9 i0 _ 1 16 Try.underlying24 hi hz0 hz1 hz2 rfl (by omega) _ (m + 1) _ rfl o6 _ m6 _ _ rfl r6 (flat_one_cell stCell_one _) (by unfold maxLen; omega) (by omega) z6 ?_; intro A7 c7 w7 o7 g7 at7 b7; have B7 := Lib.hid (B6.out.trans b7); clear g7 at7 b7)
            have o8 : w7.ownsRow w.heap.size 9 1 (.slice A7 (m + 1 + m6) c7) (m + 1 + m6) ((candS us (sh.take (k + 1))).flatMap stCell) := by
              rw [TW.out, flat_append, List.flatMap_cons, ← List.append_assoc]; exact o7
            have LE := Lib.hid (show (candS us (sh.take (k + 1))).length = m + 1 + m6 by rw [TW.out, List.length_append, List.length_cons, HM.out, L6.out]; omega)
            clear o7
            go_roundw
            case rel => exact ⟨k + 1, m + 1 + m6, A7, c7, by omega, by go_num, rfl, by rw [KS]; omega, LE.out, o8, B7.out⟩
            case measure => simp [intOf]; omega
          · obtain rfl : n' = k := by omega
            have TK := Lib.hid (show sh.take n' = sh by rw [List.take_of_length_le (by rw [hl'.out]; exact Nat.le_refl _)])
            rw [TK.out] at ho HM
            have TL' : T.length ≤ 600 := by rw [HM.out] at TL; omega
            have OC := specSortO A4 m c4 (candS us sh) wr (RS.of_own ho) (by omega)
            rw [hT] at OC
            clear ho
            go_wp2_with fail
            refine OC.mono ?_; rintro e w5 ⟨A5, c5, rfl, o5, hb5⟩
            clear OC
            obtain ⟨tn, htn⟩ : ∃ t, T.length = t := ⟨_, rfl⟩
            rw [htn] at o5 TL'
            rw [htn]
            have z5 := hb5.size
            have O5 := ((Owns.one (own_base o5 zb)).cons (below_box w5 (Obj.cells #[] 9)) (own_empty w5 w5.heap.size 9 1 (Nat.le_refl _)) (Nat.le_refl _) (by have := z5; omega)).perm (List.Perm.swap _ _ _)
            have B5 := Lib.hid ((below_app hb hb5 zb).alloc (by have := z5; omega) (Obj.cells #[] 9))
            clear o5 hb5 hb zb CB CL TL
            go_wp2_with fail
            go_loopw [9, 10] (fun v i wr => ∃ (k m : Nat) (A' : Option Addr) (c' : Nat), k ≤ tn ∧ i = .int .i64 k ∧ v = .slice A' m c' ∧ m ≤ k ∧ Hid (((T.take k).filter (suspect us sh cs)).length = m) ∧
                Owns wr w.heap.size wr.heap.size [⟨9, 1, .slice A5 tn c5, tn, T.flatMap stCell⟩, ⟨9, 1, .slice A' m c', m, ((T.take k).filter (suspect us sh cs)).flatMap stCell⟩] ∧ Below w.heap.size w wr) (fun _ i _ => tn - (intOf i).toNat)
            case atStart => exact ⟨0, 0, _, _, Nat.zero_le _, rfl, rfl, Nat.le_refl _, rfl, O5, B5.out⟩
            case round =>
              obtain ⟨k, m, A6, c6, hk, rfl, rfl, hmk, HM, O, hb⟩ := hrel
              clear O5
              have zb := hb.size
              have hre := RS.of_own (O.get (r := ⟨9, 1, .slice A5 tn c5, tn, T.flatMap stCell⟩) (by simp))
              by_cases hlt : k < tn
              · obtain ⟨g, off, rfl, b, hx, hcb⟩ := hre.stAt hlt
                have i1 : (0 : Int) ≤ k := by omega
                have i2 : (k : Int) < tn := by omega
                have FY := Lib.hid (filter_yes (p := suspect us sh cs) hx); have FN := Lib.hid (filter_no (p := suspect us sh cs) hx)
                clear hx
                have RL := recall_len us sh b
                rw [hl'.out] at RL
                have RC := specRecallOf A n c us A' n' c' sh b wr (hr.below hb) hn (hr'.below hb) hn' US.out SS.out
                have HE := Lib.hid (hasAll_end us sh cs b hlc.out)
                obtain ⟨R, hR⟩ : ∃ R, recallL us sh b = R := ⟨_, rfl⟩
                rw [hR] at RC RL HE
                go_wp2_with fail
                refine RC.mono ?_; rintro e w7 ⟨A7, c7, rfl, o7, hb7⟩
                clear RC
                have O7 := (O.below hb7).top
                have B7 := Lib.hid (below_app hb hb7 zb)
                have r7 := RS.of_own o7
                have hcb := cell_keep hb7 hcb
                clear o7 hb7 O hre
                go_wp2_with fail
                go_loopw [12, 13] (fun o i wr => ∃ j : Nat, j ≤ nc ∧ i = .int .i64 j ∧ o = .bool (hasAll R cs j) ∧ w7 = wr) (fun _ i _ => nc - (intOf i).toNat)
                case atStart => exact ⟨0, Nat.zero_le _, rfl, by rw [hasAll_zero], rfl⟩
                case round =>
                  obtain ⟨j, hj, rfl, rfl, rfl⟩ := hrel
                  by_cases hltc : j < nc
                  · obtain ⟨g3, off3, rfl, cx, hcx, hcc⟩ := (hrc.below B7.out).stAt hltc
                    have j1 : (0 : Int) ≤ j := by omega
                    have j2 : (j : Int) < nc := by omega
                    have HS := Lib.hid (hasAll_succ (R := R) hcx)
                    clear hcx
                    cases ha : hasAll R cs j
                    · rw [ha, Bool.false_and] at HS
                      go_wp2_with fail
                      go_roundw
                      case rel => exact ⟨j + 1, by omega, by go_num, by rw [HS.out], by trivial⟩
                      case measure => simp [intOf]; omega
                    · rw [ha, Bool.true_and] at HS
                      by_cases hin : cx ∈ R
                      · have pp := posB_in hin
                        rw [hasB_iff.2 hin] at HS
                        go_wp2_with fail
                        refine (specFind _ _ _ R cx _ r7 (by omega)).mono ?_; rintro e w8 ⟨rfl, rfl⟩
                        go_wp2_with fail
                        go_roundw
                        case rel => exact ⟨j + 1, by omega, by go_num, by rw [HS.out], by trivial⟩
                        case measure => simp [intOf]; omega
                      · have pp := posB_none hin
                        rw [hasB_no.2 hin] at HS
                        go_wp2_with fail
                        refine (specFind _ _ _ R cx _ r7 (by omega)).mono ?_; rintro e w8 ⟨rfl, rfl⟩
                        go_wp2_with fail
                        go_roundw
                        case rel => exact ⟨j + 1, by omega, by go_num, by rw [HS.out], by trivial⟩
                        case measure => simp [intOf]; omega
                  · obtain rfl : nc = j := by omega
                    rw [HE.out]
                    have z7 := B7.out.size
                    cases hsp : suspect us sh cs b
                    · have FE := Lib.hid (FN.out hsp)
                      go_wp2_with fail
                      go_roundw
                      case rel => exact ⟨k + 1, m, A6, c6, by omega, by go_num, rfl, by omega, by rw [Hid, FE.out]; exact HM.out, by rw [FE.out]; exact O7, B7.out⟩
                      case measure => simp [intOf]; omega
                    · have FE := Lib.hid (FY.out hsp)
                      have of := O7.get (r := ⟨9, 1, .slice A6 m c6, m, ((T.take k).filter (suspect us sh cs)).flatMap stCell⟩) (by simp)
                      go_wp2_with (at_builtin; refine wpList_app _ rfl _ _ _ rfl w.heap.size 9 i0 _ 1 16 Try.underlying24 hi hz0 hz1 hz2 rfl (by omega) _ m _ rfl (of.alloc _) _ 1 1 (stCell b) rfl (RS_new (by simp)) (stCell_one _) (by unfold maxLen; omega) (by omega) (by simp; omega) ?_; intro A9 c9 w9 o9 g9 at9 b9; have O9 := (O7.below (below_box w7 (Obj.cells #[.string b] 9))).turn (i := 1) rfl g9 o9 (own_sides at9); have B9 := Lib.hid ((B7.out.alloc z7 (Obj.cells #[.string b] 9)).trans b9); clear g9 at9 b9 o9)
                      simp only [List.set_cons_zero, List.set_cons_succ] at O9
                      rw [← flat_one stCell, ← flat_append, ← FE.out] at O9
                      have LE := Lib.hid (show ((T.take (k + 1)).filter (suspect us sh cs)).length = m + 1 by rw [FE.out]; simp [HM.out])
                      go_roundw
                      case rel => exact ⟨k + 1, m + 1, A9, c9, by omega, by go_num, rfl, by omega, LE.out, O9, B9.out⟩
                      case measure => simp [intOf]; omega
              · obtain rfl : tn = k := by omega
                have TK2 := Lib.hid (show T.take tn = T by rw [List.take_of_length_le (by rw [htn]; exact Nat.le_refl _)])
                rw [TK2.out] at O HM
                have of := O.get (r := ⟨9, 1, .slice A6 m c6, m, (T.filter (suspect us sh cs)).flatMap stCell⟩) (by simp)
                go_wp2_with fail
                go_ret
                rw [HM.out]
                exact ⟨A6, c6, rfl, of, hb⟩
end Go.Proofs.Ytaldlinekipblaa
