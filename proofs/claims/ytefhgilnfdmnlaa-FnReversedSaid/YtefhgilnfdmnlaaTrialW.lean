/- The walks of TrialBalance. No condition. -/
import Derived.Test.YtefhgilnfdmnlaaTotals
import Derived.Test.YtefhgilnfdmnlaaTrialS
import Derived.Deep.RegionHeld3
namespace Go.Proofs.Ytefhgilnfdmnlaa
open Go.ChangeShapes Go.WideShapes Go.ChangeAt Go.RowKit

theorem takeSnoc {α : Type} {l : List α} {k : Nat} {x : α} (h : l[k]? = some x) : l.take (k + 1) = l.take k ++ [x] := by rw [List.take_add_one, h]; rfl
def entsTill (day : Int) (d : Doc) : List En := if d.day ≤ day then d.ents else []
def allEnts (ds : List Doc) (day : Int) : List En := ds.flatMap (entsTill day)
def trialDocs (ds : List Doc) (day : Int) : List En := if areDocs ds then trialE (allEnts ds day) else []
theorem allEnts_take {ds : List Doc} {k : Nat} {d : Doc} (h : ds[k]? = some d) (day : Int) : allEnts (ds.take (k + 1)) day = allEnts (ds.take k) day ++ entsTill day d := by
  unfold allEnts; rw [List.take_add_one, h, List.flatMap_append]; simp
theorem allEnts_len {ds : List Doc} (h : ∀ d ∈ ds, areEntries d.ents = true) (day : Int) (k : Nat) (hk : k ≤ ds.length) : (allEnts (ds.take k) day).length ≤ k * 12 := by
  induction k with
  | zero => simp [allEnts]
  | succ k ih =>
    have hx : ds[k]? = some ds[k] := List.getElem?_eq_getElem (by omega)
    rw [allEnts_take hx, List.length_append]
    have h1 := ih (by omega)
    have h2 := (areEntries_true (h ds[k] (List.getElem_mem _))).2.2.2
    have h3 : (entsTill day ds[k]).length ≤ 12 := by
      unfold entsTill
      split
      · exact h2
      · simp
    omega
theorem allEnts_good {ds : List Doc} (h : ∀ d ∈ ds, areEntries d.ents = true) (day : Int) : ∀ x ∈ allEnts ds day, enGood x = true := by
  intro x hx
  obtain ⟨d, hd, hx⟩ := List.mem_flatMap.1 hx
  unfold entsTill at hx
  split at hx
  · exact (areEntries_true (h d hd)).1 x hx
  · simp at hx
theorem good_size {x : En} (h : enGood x = true) : x.acc.size ≤ 8 := (isCode_len (enGood_amt h).2.2.2).2
theorem areDocs_day {ds : List Doc} (h : areDocs ds = true) : ∀ d ∈ ds, 0 ≤ d.day ∧ d.day ≤ 999 := by
  intro d hd
  obtain ⟨k, hk, rfl⟩ := List.getElem_of_mem hd
  have := (areDocs_true h).2 k _ (List.getElem?_eq_getElem hk)
  simp only [docGood, Bool.and_eq_true, inB_true] at this
  exact this.2.1
theorem trialDocs_len (ds : List Doc) (day : Int) : (trialDocs ds day).length ≤ 1440 := by
  unfold trialDocs
  split
  · rename_i h
    have h1 := trialE_len (allEnts ds day)
    have h2 := allEnts_len (areDocs_ents h) day ds.length (Nat.le_refl _)
    rw [List.take_length] at h2
    have := (areDocs_true h).1
    omega
  · simp

set_option maxRecDepth 100000 in
set_option maxHeartbeats 4000000 in
theorem implMove (A : Option Addr) (n c : Nat) (ds : List Doc) (day : Int) (w : World) (hr : DocsR w A n ds) (hn : n ≤ 1048600) (hok : docsSmall ds) :
    Calls Try.prog 64 #[.slice A n c, .int .i64 0, .int .i64 day] w fun e w' => ∃ A' c', e = .returned (.slice A' (trialDocs ds day).length c') ∧ w'.ownsRow w.heap.size 47 2 (.slice A' (trialDocs ds day).length c') (trialDocs ds day).length ((trialDocs ds day).flatMap enCell) ∧ Below w.heap.size w w' := by
  have hl := Lib.hid hr.len
  have OK := Lib.hid hok; clear hok
  obtain ⟨i0, hi, hz0, hz1, hz2⟩ := info_parts enInfo
  have E0 := own_empty w w.heap.size 47 2 (Nat.le_refl _)
  cases h : areDocs ds
  · have T0 := Lib.hid (show trialDocs ds day = [] by simp [trialDocs, h])
    go_enter Try.func64, Try.ntmps64
    go_wp2_with fail
    refine (implAreDocs _ _ _ ds _ (hr.below (below_box w _)) hn OK.out).mono ?_; rw [h]; rintro e w1 ⟨rfl, hb1⟩
    have o1 := own_below E0 hb1
    go_wp2_with fail
    go_ret
    rw [T0.out]
    exact ⟨_, _, rfl, o1, below_then (below_box w _) hb1⟩
  · have H := Lib.hid h
    have n120 : n ≤ 120 := by rw [← hl.out]; exact (areDocs_true h).1
    have ED := Lib.hid (areDocs_ents h)
    have DD := Lib.hid (areDocs_day h)
    have LE := Lib.hid (allEnts_len ED.out day)
    have T0 := Lib.hid (show trialDocs ds day = trialE (allEnts ds day) by simp [trialDocs, h])
    clear h
    go_enter Try.func64, Try.ntmps64
    go_wp2_with fail
    refine (implAreDocs _ _ _ ds _ (hr.below (below_box w _)) hn OK.out).mono ?_; rw [H.out]; rintro e w1 ⟨rfl, hb1⟩
    have o1 := own_below E0 hb1
    have b1 := below_then (below_box w _) hb1
    have z1 := b1.size
    clear hb1 E0
    go_wp2_with fail
    go_loopw [7, 17] (fun v i wr => ∃ (k : Nat) (A' : Option Addr) (c' : Nat), k ≤ n ∧ i = .int .i64 k ∧ v = .slice A' (allEnts (ds.take k) day).length c' ∧ wr.ownsRow w.heap.size 47 2 (.slice A' (allEnts (ds.take k) day).length c') (allEnts (ds.take k) day).length ((allEnts (ds.take k) day).flatMap enCell) ∧ Below w.heap.size w wr) (fun _ i _ => n - (intOf i).toNat)
    case atStart => exact ⟨0, _, _, Nat.zero_le _, rfl, rfl, o1, b1⟩
    case round =>
      obtain ⟨k, A', c', hk, rfl, rfl, oo, hb⟩ := hrel
      clear o1 b1
      have lk := LE.out k (by rw [hl.out]; exact hk)
      by_cases hlt : k < n
      · obtain ⟨g, off, rfl, ⟨num, dday, ents⟩, eA, en, ec, hx, h0, h1, h2, hre⟩ := (hr.below hb).docAt hlt
        have AT := Lib.hid (allEnts_take hx day)
        have he := ED.out _ (List.mem_of_getElem? hx)
        have hd := DD.out _ (List.mem_of_getElem? hx)
        have hel := hre.flatLen enCell_len (by omega)
        have e12 := (areEntries_true he).2.2.2
        simp only at h0 h1 h2 hre hel hd e12
        have zb := hb.size
        have EL := Lib.hid hel
        have en12 : en ≤ 12 := by omega
        clear hx he hel e12
        by_cases hday : dday ≤ day
        · have AT2 := Lib.hid (show allEnts (ds.take (k + 1)) day = allEnts (ds.take k) day ++ ents by rw [AT.out, entsTill, if_pos hday])
          have LN := Lib.hid (show (allEnts (ds.take (k + 1)) day).length = (allEnts (ds.take k) day).length + en by rw [AT2.out, List.length_append, EL.out])
          have d0 : 0 ≤ dday := hd.1
          go_wp2_with (at_builtin; refine wpList_app _ rfl _ _ _ rfl w.heap.size 47 i0 _ 2 24 Try.underlying25 hi hz0 hz1 hz2 rfl (by omega) _ (allEnts (ds.take k) day).length ((allEnts (ds.take k) day).flatMap enCell) rfl (oo.alloc _) eA en ec (ents.flatMap enCell) rfl (hre.alloc _) (flat_one_cell enCell_one _) (by unfold maxLen; omega) (by omega) (by simp; omega) ?_; intro A6 c6 w6 o6 g6 at6 b6)
          have o7 : w6.ownsRow w.heap.size 47 2 (.slice A6 (allEnts (ds.take (k + 1)) day).length c6) (allEnts (ds.take (k + 1)) day).length ((allEnts (ds.take (k + 1)) day).flatMap enCell) := by
            rw [LN.out, AT2.out, flat_append]; exact o6
          have B6 := (hb.alloc zb (Obj.cells #[.int .i64 num, .int .i64 dday, .slice eA en ec] 49)).trans b6
          clear o6 g6 at6 b6 oo
          go_roundw
          case rel => exact ⟨k + 1, A6, c6, by omega, by go_num, by rw [LN.out], o7, B6⟩
          case measure => simp [intOf]; omega
        · have AT2 := Lib.hid (show allEnts (ds.take (k + 1)) day = allEnts (ds.take k) day by rw [AT.out, entsTill, if_neg hday, List.append_nil])
          have d0 : 0 ≤ dday := hd.1
          go_wp2_with fail
          go_roundw
          case rel => exact ⟨k + 1, A', c', by omega, by go_num, by rw [AT2.out], by rw [AT2.out]; exact oo.alloc _, hb.alloc zb _⟩
          case measure => simp [intOf]; omega
      · obtain rfl : n = k := by omega
        have TK := Lib.hid (show ds.take n = ds by rw [List.take_of_length_le (by rw [hl.out]; exact Nat.le_refl _)])
        rw [TK.out] at oo lk ⊢
        have GD := Lib.hid (allEnts_good ED.out day)
        go_wp2_with fail
        refine (implTotals _ _ _ (allEnts ds day) _ (RS.of_own oo) (by omega) (fun x hx => by have := good_size (GD.out x hx); omega) (fun x hx => by have := enGood_amt (GD.out x hx); omega)).mono ?_; rintro e w7 ⟨A7, c7, rfl, o7, hb7⟩
        go_wp2_with fail
        go_ret
        rw [T0.out]
        exact ⟨A7, c7, rfl, own_base o7 hb.size, below_app hb hb7 hb.size⟩
set_option maxRecDepth 100000 in
theorem implTrial (A : Option Addr) (n c : Nat) (ds : List Doc) (day : Int) (w : World) (hr : DocsR w A n ds) (hn : n ≤ 1048600) (hok : docsSmall ds) :
    Calls Try.prog 41 #[.slice A n c, .int .i64 day] w fun e w' => ∃ A' c', e = .returned (.slice A' (trialDocs ds day).length c') ∧ w'.ownsRow w.heap.size 47 2 (.slice A' (trialDocs ds day).length c') (trialDocs ds day).length ((trialDocs ds day).flatMap enCell) ∧ Below w.heap.size w w' := by
  obtain ⟨m, hm⟩ : ∃ m, (trialDocs ds day).length = m := ⟨_, rfl⟩
  have HM := Lib.hid hm
  rw [hm]; clear hm
  go_enter Try.func41, Try.ntmps41
  go_wp2_with fail
  refine (implMove _ _ _ ds day _ hr hn hok).mono ?_; rw [HM.out]; rintro e w1 ⟨A1, c1, rfl, o1, hb1⟩
  go_wp2_with fail
  go_ret
  exact ⟨A1, c1, rfl, o1, hb1⟩
set_option maxRecDepth 100000 in
set_option maxHeartbeats 4000000 in
theorem specTrial (A : Option Addr) (n c : Nat) (ds : List Doc) (day : Int) (w : World) (hr : DocsR w A n ds) (hn : n ≤ 1048600) (hok : docsSmall ds) :
    Calls Try.prog 42 #[.slice A n c, .int .i64 day] w fun e w' => ∃ A' c', e = .returned (.slice A' (trialDocs ds day).length c') ∧ w'.ownsRow w.heap.size 47 2 (.slice A' (trialDocs ds day).length c') (trialDocs ds day).length ((trialDocs ds day).flatMap enCell) ∧ Below w.heap.size w w' := by
  have hl := Lib.hid hr.len
  have OK := Lib.hid hok; clear hok
  have E0 := own_empty w w.heap.size 47 2 (Nat.le_refl _)
  have B0 := below_box w (Obj.cells #[] 47)
  cases h : areDocs ds
  · have T0 := Lib.hid (show trialDocs ds day = [] by simp [trialDocs, h])
    have H := Lib.hid h
    clear h
    by_cases h0 : 0 < n
    · go_enter Try.func42, Try.ntmps42
      go_wp2_with fail
      refine wp_loop_once ?_
      go_wp2_with fail
      refine (specAreDocs _ _ _ ds _ (hr.below B0) hn OK.out).mono ?_; rw [H.out]; rintro e w1 ⟨rfl, hb1⟩
      have o1 := own_below E0 hb1
      go_wp2_with fail
      go_ret
      rw [T0.out]
      exact ⟨_, _, rfl, o1, below_then B0 hb1⟩
    · go_enter Try.func42, Try.ntmps42
      go_wp2_with fail
      refine wp_loop_once ?_
      go_wp2_with fail
      go_ret
      rw [T0.out]
      exact ⟨_, _, rfl, E0, B0⟩
  · have H := Lib.hid h
    have n120 : n ≤ 120 := by rw [← hl.out]; exact (areDocs_true h).1
    have ED := Lib.hid (areDocs_ents h)
    have LE := Lib.hid (allEnts_len ED.out day)
    have T0 := Lib.hid (show trialDocs ds day = trialE (allEnts ds day) by simp [trialDocs, h])
    have GD := Lib.hid (allEnts_good ED.out day)
    clear h
    go_enter Try.func42, Try.ntmps42
    go_wp2_with fail
    go_loopw [5, 6] (fun v i wr => ∃ (k : Nat) (A' : Option Addr) (c' : Nat), k ≤ n ∧ i = .int .i64 k ∧ v = .slice A' (trialE (allEnts (ds.take k) day)).length c' ∧ wr.ownsRow w.heap.size 47 2 (.slice A' (trialE (allEnts (ds.take k) day)).length c') (trialE (allEnts (ds.take k) day)).length ((trialE (allEnts (ds.take k) day)).flatMap enCell) ∧ Below w.heap.size w wr) (fun _ i _ => n - (intOf i).toNat)
    case atStart => exact ⟨0, _, _, Nat.zero_le _, rfl, rfl, E0, B0⟩
    case round =>
      obtain ⟨k, A', c', hk, rfl, rfl, oo, hb⟩ := hrel
      clear E0 B0
      obtain ⟨wu, rfl⟩ : ∃ wu : World, wu = wr := ⟨_, rfl⟩
      by_cases hlt : k < n
      · go_wp2_with fail
        refine (specAreDocs _ _ _ ds _ (hr.below hb) hn OK.out).mono ?_; rw [H.out]; rintro e wo ⟨rfl, hbo⟩
        have bo := below_app hb hbo hb.size
        have oo := own_below oo hbo
        obtain ⟨g, off, rfl, ⟨num, dday, ents⟩, eA, en, ec, hx, h0, h1, h2, hre⟩ := hr.docAt hlt
        have gl : g < w.heap.size := World.block_lt_of_cell? w _ h0
        have AT := Lib.hid (allEnts_take hx day)
        have he := ED.out _ (List.mem_of_getElem? hx)
        have hel := hre.flatLen enCell_len (by omega)
        have e12 := (areEntries_true he).2.2.2
        simp only at h0 h1 h2 hre hel e12
        have EL := Lib.hid hel
        have en12 : en ≤ 12 := by omega
        have EG := Lib.hid (areEntries_true he).1
        simp only at EG
        clear hx he hel e12 h0
        have h1o := cell_keep bo h1; have h2o := cell_keep bo h2
        have i1 : (0 : Int) ≤ k := by omega
        have i2 : (k : Int) < n := by omega
        have PG := Lib.hid (show ∀ x ∈ allEnts (ds.take k) day, enGood x = true from fun x hx => GD.out x (by
          obtain ⟨d, hd, hx⟩ := List.mem_flatMap.1 hx
          exact List.mem_flatMap.2 ⟨d, List.mem_of_mem_take hd, hx⟩))
        have PL := LE.out k (by rw [hl.out]; omega)
        clear hbo hb
        by_cases hday : dday ≤ day
        · have AT2 := Lib.hid (show allEnts (ds.take (k + 1)) day = allEnts (ds.take k) day ++ ents by rw [AT.out, entsTill, if_pos hday])
          go_wp2_with fail
          go_loopw [5, 7] (fun v i wz => ∃ (j : Nat) (A' : Option Addr) (c' : Nat), j ≤ en ∧ i = .int .i64 j ∧ v = .slice A' (trialE (allEnts (ds.take k) day ++ ents.take j)).length c' ∧ wz.ownsRow w.heap.size 47 2 (.slice A' (trialE (allEnts (ds.take k) day ++ ents.take j)).length c') (trialE (allEnts (ds.take k) day ++ ents.take j)).length ((trialE (allEnts (ds.take k) day ++ ents.take j)).flatMap enCell) ∧ Below w.heap.size w wz) (fun _ i _ => en - (intOf i).toNat)
          case atStart => exact ⟨0, A', c', Nat.zero_le _, rfl, by simp, by simpa using oo, bo⟩
          case round =>
            obtain ⟨j, A', c', hj, rfl, rfl, oz, hz⟩ := hrel
            clear oo bo h1o h2o
            have h1z := cell_keep hz h1; have h2z := cell_keep hz h2
            by_cases hlt2 : j < en
            · obtain ⟨g2, off2, rfl, ⟨ac, am⟩, hx2, c0w, c1w⟩ := hre.enAt hlt2
              have gl2 : g2 < w.heap.size := World.block_lt_of_cell? w _ c0w
              simp only at c0w c1w
              have c0 := cell_keep hz c0w; have c1 := cell_keep hz c1w
              have TS := Lib.hid (show trialE (allEnts (ds.take k) day ++ ents.take (j + 1)) = addE (trialE (allEnts (ds.take k) day ++ ents.take j)) ac am by
                rw [takeSnoc hx2, ← List.append_assoc]; exact trialE_snoc _ _)
              have GG := Lib.hid (show ∀ x ∈ allEnts (ds.take k) day ++ ents.take j, enGood x = true from fun x hx => by
                rcases List.mem_append.1 hx with h | h
                · exact PG.out x h
                · exact EG.out x (List.mem_of_mem_take h))
              have g1 := enGood_amt (EG.out _ (List.mem_of_getElem? hx2))
              simp only at g1
              have TL := trialE_len (allEnts (ds.take k) day ++ ents.take j)
              rw [List.length_append, List.length_take] at TL
              have TL2 : (trialE (allEnts (ds.take k) day ++ ents.take j)).length ≤ 1500 := by omega
              have AM := Lib.hid (show ∀ x ∈ trialE (allEnts (ds.take k) day ++ ents.take j), -9000000000000000000 ≤ am + x.amt ∧ am + x.amt ≤ 9000000000000000000 from fun x hx => by
                have e := (trialE_amt hx).2
                have b := sumAcc_bd (l := allEnts (ds.take k) day ++ ents.take j) (M := 1000000000) (by omega) (fun y hy => by have := enGood_amt (GG.out y hy); omega) x.acc
                rw [← e, List.length_append, List.length_take] at b
                have := g1
                omega)
              clear hx2 TL c0w c1w
              have j1 : (0 : Int) ≤ j := by omega
              have j2 : (j : Int) < en := by omega
              have cc := own_slice oz
              have hcc : (trialE (allEnts (ds.take k) day ++ ents.take j)).length ≤ c' := by
                obtain ⟨_, _, e, h, _⟩ := cc
                injection e with _ _ e3; omega
              clear cc
              have ag : (Value.slice A' (trialE (allEnts (ds.take k) day ++ ents.take j)).length c').ownBlock ≠ some g := fun he => by have := (oz.lt g he).1; omega
              have zz := hz.size
              go_wp2_with fail
              go_region_held3 (fun w' => w'.cell? ⟨g, off + k * 3 + 2, none⟩ = some (.slice (some ⟨g2, off2, none⟩) en ec) ∧ w'.cell? ⟨g2, off2 + j * 2, none⟩ = some (.string ac) ∧ w'.cell? ⟨g2, off2 + j * 2 + 1, none⟩ = some (.int .i64 am))
                (first
                  | go_keep
                  | (go_split_ands
                     refine ⟨?_, ?_, ?_⟩
                     · (exact cell_keep hb5 ‹_›)
                     · (exact cell_keep hb5 ‹_›)
                     · (exact cell_keep hb5 ‹_›)))
                (first | (go_at_call 62; refine (specAdd A' _ c' (trialE (allEnts (ds.take k) day ++ ents.take j)) ac am _ (RS.of_own oz.drew) (by omega) hcc AM.out).mono ?_; rintro e w5 ⟨A5, c5, rfl, o5, hb5⟩))
              have bz := hz.drew.trans (hb5.mono zz)
              have o6 := own_base o5 zz
              rw [← TS.out] at o6 ⊢
              clear o5 hb5 oz
              go_wp2_with fail
              go_roundw
              case rel => exact ⟨j + 1, A5, c5, by omega, by go_num, rfl, o6, bz⟩
              case measure => simp [intOf]; omega
            · obtain rfl : en = j := by omega
              have EE := Lib.hid (show allEnts (ds.take k) day ++ ents.take en = allEnts (ds.take (k + 1)) day by
                have e : ents.take en = ents := List.take_of_length_le (by rw [EL.out]; exact Nat.le_refl _)
                rw [AT2.out, e])
              rw [EE.out] at oz ⊢
              go_wp2_with fail
              go_roundw
              case rel => exact ⟨k + 1, A', c', by omega, by go_num, rfl, oz, hz⟩
              case measure => simp [intOf]; omega
        · have AT2 := Lib.hid (show allEnts (ds.take (k + 1)) day = allEnts (ds.take k) day by rw [AT.out, entsTill, if_neg hday, List.append_nil])
          by_cases h0 : 0 < en
          all_goals
            go_wp2_with fail
            refine wp_loop_once ?_
            go_wp2_with fail
            go_roundw
            case rel => exact ⟨k + 1, A', c', by omega, by go_num, by rw [AT2.out], by rw [AT2.out]; exact oo, bo⟩
            case measure => simp [intOf]; omega
      · obtain rfl : n = k := by omega
        have TK := Lib.hid (show trialE (allEnts (ds.take n) day) = trialDocs ds day by rw [T0.out, List.take_of_length_le (by rw [hl.out]; exact Nat.le_refl _)])
        rw [TK.out] at oo ⊢
        go_wp2_with fail
        go_ret
        exact ⟨A', c', rfl, oo, hb⟩
end Go.Proofs.Ytefhgilnfdmnlaa
