/- The walks of AreShipments and RecallOf. No condition. -/
import Derived.Test.YtaldlinekipblaaRecallP
import Derived.Test.YtaldlinekipblaaTrace
namespace Go.Proofs.Ytaldlinekipblaa
open Go.ChangeShapes Go.WideShapes Go.ChangeAt Go.RowKit

def shsSmall (l : List Sh) : Prop := ∀ x ∈ l, x.batch.size ≤ 9223372036854775807 ∧ x.cust.size ≤ 9223372036854775807
theorem all_nextS {l : List Sh} {P : Sh → Prop} {k : Nat} {u : Sh} (h : ∀ (j : Nat) (v : Sh), j < k → l[j]? = some v → P v) (hx : l[k]? = some u) (hu : P u) : ∀ (j : Nat) (v : Sh), j < k + 1 → l[j]? = some v → P v := fun j v hj hv => by
  rcases Nat.lt_succ_iff_lt_or_eq.1 hj with h' | rfl
  · exact h j v h' hv
  · rw [hx] at hv; injection hv with hv; rw [← hv]; exact hu
set_option maxRecDepth 100000 in
set_option maxHeartbeats 2000000 in
theorem implAreShips (A : Option Addr) (n c : Nat) (l : List Sh) (w : World) (hr : RS w 2 A n (l.flatMap shCell)) (hn : n ≤ 1048600) (hs : shsSmall l) :
    Calls Try.prog 46 #[.slice A n c] w fun e w' => e = .returned (.bool (areShips l)) ∧ Below w.heap.size w w' := by
  have hl := Lib.hid (hr.flatLen shCell_len (by omega))
  have SM := Lib.hid hs; clear hs
  go_enter Try.func46, Try.ntmps46
  go_wp2
  go_loopw [7] (fun i wr => ∃ k : Nat, k ≤ n ∧ i = .int .i64 k ∧ Below w.heap.size w wr ∧ Hid (∀ (j : Nat) (u : Sh), j < k → l[j]? = some u → shipOk u = true)) (fun i _ => n - (intOf i).toNat)
  case atStart => exact ⟨0, Nat.zero_le _, rfl, Below.refl _ _, fun _ _ h => absurd h (Nat.not_lt_zero _)⟩
  case round =>
    obtain ⟨k, hk, rfl, hb, hall⟩ := hrel
    have hz := hb.size
    by_cases hlt : k < n
    · obtain ⟨g, off, rfl, ⟨batch, cust⟩, hx, c0, c1⟩ := (hr.below hb).shAt hlt
      obtain ⟨s1, s2⟩ := SM.out _ (List.mem_of_getElem? hx)
      simp only at c0 c1 s1 s2
      have NX := Lib.hid (all_nextS hall.out hx)
      have BD := Lib.hid (ships_bad hx)
      clear hx hall
      have b1 := Lib.hid (hb.alloc hz (Obj.cells #[.string batch, .string cust] 51))
      cases h1 : isCode batch
      · have R := Lib.hid (BD.out (show shipOk ⟨batch, cust⟩ = false by simp [shipOk, h1]))
        go_wp2_with fail
        refine (implIsCode batch _ s1).mono ?_; rw [h1]; rintro e w' ⟨rfl, rfl⟩
        go_wp2_with fail
        go_ret
        exact ⟨ret_bool R.out.symm, b1.out⟩
      · cases h2 : isCode cust
        · have R := Lib.hid (BD.out (show shipOk ⟨batch, cust⟩ = false by simp [shipOk, h2]))
          go_wp2_with fail
          refine (implIsCode batch _ s1).mono ?_; rw [h1]; rintro e w' ⟨rfl, rfl⟩
          go_wp2_with fail
          refine (implIsCode cust _ s2).mono ?_; rw [h2]; rintro e w' ⟨rfl, rfl⟩
          go_wp2_with fail
          go_ret
          exact ⟨ret_bool R.out.symm, b1.out⟩
        · have G := Lib.hid (NX.out (show shipOk ⟨batch, cust⟩ = true by simp [shipOk, h1, h2]))
          go_wp2_with fail
          refine (implIsCode batch _ s1).mono ?_; rw [h1]; rintro e w' ⟨rfl, rfl⟩
          go_wp2_with fail
          refine (implIsCode cust _ s2).mono ?_; rw [h2]; rintro e w' ⟨rfl, rfl⟩
          go_wp2_with fail
          go_roundw
          case rel => exact ⟨k + 1, by omega, by go_num, b1.out, G.out⟩
          case measure => simp [intOf]; omega
    · obtain rfl : n = k := by omega
      have R := Lib.hid (ships_good fun j u hx => hall.out j u (by rw [← hl.out]; exact (List.getElem?_eq_some_iff.1 hx).1) hx)
      rw [hl.out] at R
      clear hall
      go_wp2_with fail
      go_ret
      exact ⟨ret_bool (by rw [R.out]; simp only [decide_eq_decide]; omega), hb⟩
set_option maxRecDepth 100000 in
set_option maxHeartbeats 4000000 in
theorem specAreShips (A : Option Addr) (n c : Nat) (l : List Sh) (w : World) (hr : RS w 2 A n (l.flatMap shCell)) (hn : n ≤ 1048600) (hs : shsSmall l) :
    Calls Try.prog 43 #[.slice A n c] w fun e w' => e = .returned (.bool (areShips l)) ∧ Below w.heap.size w w' := by
  have hl := Lib.hid (hr.flatLen shCell_len (by omega))
  have SM := Lib.hid hs; clear hs
  go_enter Try.func43, Try.ntmps43
  go_wp2
  go_loopw [3] (fun i wr => ∃ k : Nat, k ≤ n ∧ i = .int .i64 k ∧ Below w.heap.size w wr ∧ Hid (∀ (j : Nat) (u : Sh), j < k → l[j]? = some u → shipOk u = true)) (fun i _ => n - (intOf i).toNat)
  case atStart => exact ⟨0, Nat.zero_le _, rfl, Below.refl _ _, fun _ _ h => absurd h (Nat.not_lt_zero _)⟩
  case round =>
    obtain ⟨k, hk, rfl, hb, hall⟩ := hrel
    have hz := hb.size
    by_cases hlt : k < n
    · obtain ⟨g, off, rfl, ⟨batch, cust⟩, hx, c0, c1⟩ := (hr.below hb).shAt hlt
      obtain ⟨s1, s2⟩ := SM.out _ (List.mem_of_getElem? hx)
      simp only at c0 c1 s1 s2
      have NX := Lib.hid (all_nextS hall.out hx)
      have BD := Lib.hid (ships_bad hx)
      clear hx hall
      have i1 : (0 : Int) ≤ k := by omega
      have i2 : (k : Int) < n := by omega
      cases h1 : isCode batch
      · have R := Lib.hid (BD.out (show shipOk ⟨batch, cust⟩ = false by simp [shipOk, h1]))
        go_wp2_with fail
        refine (specIsCode batch _ s1).mono ?_; rw [h1]; rintro e w' ⟨rfl, rfl⟩
        go_wp2_with fail
        go_ret
        exact ⟨ret_bool R.out.symm, hb⟩
      · cases h2 : isCode cust
        · have R := Lib.hid (BD.out (show shipOk ⟨batch, cust⟩ = false by simp [shipOk, h2]))
          go_wp2_with fail
          refine (specIsCode batch _ s1).mono ?_; rw [h1]; rintro e w' ⟨rfl, rfl⟩
          go_wp2_with fail
          refine (specIsCode cust _ s2).mono ?_; rw [h2]; rintro e w' ⟨rfl, rfl⟩
          go_wp2_with fail
          go_ret
          exact ⟨ret_bool R.out.symm, hb⟩
        · have G := Lib.hid (NX.out (show shipOk ⟨batch, cust⟩ = true by simp [shipOk, h1, h2]))
          go_wp2_with fail
          refine (specIsCode batch _ s1).mono ?_; rw [h1]; rintro e w' ⟨rfl, rfl⟩
          go_wp2_with fail
          refine (specIsCode cust _ s2).mono ?_; rw [h2]; rintro e w' ⟨rfl, rfl⟩
          go_wp2_with fail
          go_roundw
          case rel => exact ⟨k + 1, by omega, by go_num, hb, G.out⟩
          case measure => simp [intOf]; omega
    · obtain rfl : n = k := by omega
      have R := Lib.hid (ships_good fun j u hx => hall.out j u (by rw [← hl.out]; exact (List.getElem?_eq_some_iff.1 hx).1) hx)
      rw [hl.out] at R
      clear hall
      go_wp2_with fail
      go_ret
      exact ⟨ret_bool (by rw [R.out]; simp only [decide_eq_decide]; omega), hb⟩
theorem recall_no {us : List Us} {sh : List Sh} (h : areUses us = false ∨ areShips sh = false) (b : ByteArray) : recallL us sh b = [] := by
  unfold recallL; rw [if_neg]; rcases h with h | h <;> simp [h]
theorem recall_yes {us : List Us} {sh : List Sh} (h : areUses us = true) (h2 : areShips sh = true) (b : ByteArray) : recallL us sh b = sortO (custs (reachL false us b) sh) := by
  unfold recallL; rw [if_pos (by simp [h, h2])]
set_option maxRecDepth 100000 in
set_option maxHeartbeats 4000000 in
theorem implRecallOf (A : Option Addr) (n c : Nat) (us : List Us) (A' : Option Addr) (n' c' : Nat) (sh : List Sh) (b : ByteArray) (w : World) (hr : RS w 3 A n (us.flatMap usCell)) (hn : n ≤ 1048600) (hr' : RS w 2 A' n' (sh.flatMap shCell)) (hn' : n' ≤ 1048600) (hs : usSmall us) (hs' : shsSmall sh) :
    Calls Try.prog 22 #[.slice A n c, .slice A' n' c', .string b] w fun e w' => ∃ A' c', e = .returned (.slice A' (recallL us sh b).length c') ∧ w'.ownsRow w.heap.size 9 1 (.slice A' (recallL us sh b).length c') (recallL us sh b).length ((recallL us sh b).flatMap stCell) ∧ Below w.heap.size w w' := by
  have hl := Lib.hid (hr.flatLen usCell_len (by omega))
  have hl' := Lib.hid (hr'.flatLen shCell_len (by omega))
  obtain ⟨i0, hi, hz0, hz1, hz2⟩ := info_parts stInfo
  have SS := Lib.hid hs'; clear hs'
  cases h : areUses us
  · have E := Lib.hid (recall_no (sh := sh) (.inl h) b)
    have H := Lib.hid h; clear h
    rw [E.out]
    go_enter Try.func22, Try.ntmps22
    go_wp2_with fail
    refine (implAreUses _ _ _ us _ hr hn hs).mono ?_; rw [H.out]; rintro e w1 ⟨rfl, hb1⟩
    go_wp2_with fail
    go_ret
    exact ⟨none, 0, rfl, own_none _ _ _ _, hb1⟩
  · cases h2 : areShips sh
    · have E := Lib.hid (recall_no (us := us) (.inr h2) b)
      have H := Lib.hid h; have H2 := Lib.hid h2; clear h h2
      rw [E.out]
      go_enter Try.func22, Try.ntmps22
      go_wp2_with fail
      refine (implAreUses _ _ _ us _ hr hn hs).mono ?_; rw [H.out]; rintro e w1 ⟨rfl, hb1⟩
      go_wp2_with fail
      refine (implAreShips _ _ _ sh _ (hr'.below hb1) hn' SS.out).mono ?_; rw [H2.out]; rintro e w2 ⟨rfl, hb2⟩
      have b2 := below_then hb1 hb2
      go_wp2_with fail
      go_ret
      exact ⟨none, 0, rfl, own_none _ _ _ _, b2⟩
    · have E := Lib.hid (recall_yes h h2 b)
      have L24 := ships_len h2
      rw [hl'.out] at L24
      have H := Lib.hid h; have H2 := Lib.hid h2; clear h h2
      rw [E.out]
      have RB := (reach_len false us b).2
      rw [hl.out] at RB
      obtain ⟨R, hR⟩ : ∃ R, reachL false us b = R := ⟨_, rfl⟩
      rw [hR] at RB
      rw [hR]
      go_enter Try.func22, Try.ntmps22
      go_wp2_with fail
      refine (implAreUses _ _ _ us _ hr hn hs).mono ?_; rw [H.out]; rintro e w1 ⟨rfl, hb1⟩
      go_wp2_with fail
      refine (implAreShips _ _ _ sh _ (hr'.below hb1) hn' SS.out).mono ?_; rw [H2.out]; rintro e w2 ⟨rfl, hb2⟩
      have B2 := Lib.hid (below_then hb1 hb2)
      clear hb2 hb1
      go_wp2_with fail
      have RC := implReachDown A n c us b w2 (hr.below B2.out) hn
      rw [hR] at RC
      refine RC.mono ?_; rintro e w3 ⟨A3, c3, v3, rfl, o3, hb3⟩
      clear RC
      have B3 := Lib.hid (below_then B2.out hb3)
      have r3 := RS.of_own o3
      clear hb3 o3
      have OE := own_empty w3 w3.heap.size 9 1 (Nat.le_refl _)
      go_wp2_with fail
      go_loopw [9, 29] (fun v i wr => ∃ (k m : Nat) (A' : Option Addr) (c' : Nat), k ≤ n' ∧ i = .int .i64 k ∧ v = .slice A' m c' ∧ m ≤ k ∧ Hid ((custs R (sh.take k)).length = m) ∧ wr.ownsRow w3.heap.size 9 1 (.slice A' m c') m ((custs R (sh.take k)).flatMap stCell) ∧ Below w3.heap.size w3 wr) (fun _ i _ => n' - (intOf i).toNat)
      case atStart => exact ⟨0, 0, _, _, Nat.zero_le _, rfl, rfl, Nat.le_refl _, rfl, OE, below_box w3 _⟩
      case round =>
        obtain ⟨k, m, A4, c4, hk, rfl, rfl, hmk, HM, ho, hb⟩ := hrel
        clear OE
        have zb := hb.size
        have bw := Lib.hid (below_app B3.out hb B3.out.size)
        by_cases hlt : k < n'
        · obtain ⟨g, off, rfl, ⟨batch, cust⟩, hx, c0, c1⟩ := (hr'.below bw.out).shAt hlt
          simp only at c0 c1
          have CI := Lib.hid (custs_in (R := R) hx); have CO := Lib.hid (custs_out (R := R) hx)
          simp only at CI CO
          clear hx
          have XB := Lib.hid (blk_new1 wr (Obj.cells #[.string batch, .string cust] 51))
          have a0 := blk_at XB.out (j := 0) rfl; have a1 := blk_at XB.out (j := 1) rfl
          have b1 := Lib.hid (hb.alloc zb (Obj.cells #[.string batch, .string cust] 51))
          have rr := r3.below b1.out
          have o1 := ho.alloc (Obj.cells #[.string batch, .string cust] 51)
          clear ho
          by_cases hin : batch ∈ R
          · have pp := posB_in hin
            have EE := Lib.hid (CI.out hin)
            go_wp2_with fail
            refine (implIndexOf _ _ _ R batch _ rr (by omega)).mono ?_; rintro e w4 ⟨rfl, rfl⟩
            go_wp2_with (at_builtin; refine wpList_app _ rfl _ _ _ rfl w3.heap.size 9 i0 _ 1 16 Try.underlying24 hi hz0 hz1 hz2 rfl (by omega) _ m _ rfl (o1.alloc _) _ 1 1 (stCell cust) rfl (RS_new2 (by simp)) (stCell_one _) (by unfold maxLen; omega) (by omega) (by simp; omega) ?_; intro A5 c5 w5 o5 g5 at5 b5; have B5 := Lib.hid ((b1.out.alloc b1.out.size (Obj.cells #[.string cust] 9)).trans b5); clear g5 at5 b5)
            rw [← flat_one stCell, ← flat_append, ← EE.out] at o5
            have LE := Lib.hid (show (custs R (sh.take (k + 1))).length = m + 1 by rw [EE.out]; simp [HM.out])
            go_roundw
            case rel => exact ⟨k + 1, m + 1, A5, c5, by omega, by go_num, rfl, by omega, LE.out, o5, B5.out⟩
            case measure => simp [intOf]; omega
          · have pp := posB_none hin
            have p0 : ¬ 0 ≤ posB R batch := by omega
            have EE := Lib.hid (CO.out hin)
            go_wp2_with fail
            refine (implIndexOf _ _ _ R batch _ rr (by omega)).mono ?_; rintro e w4 ⟨rfl, rfl⟩
            go_wp2_with fail
            go_roundw
            case rel => exact ⟨k + 1, m, A4, c4, by omega, by go_num, rfl, by omega, by rw [Hid, EE.out]; exact HM.out, by rw [EE.out]; exact o1, b1.out⟩
            case measure => simp [intOf]; omega
        · obtain rfl : n' = k := by omega
          have TK := Lib.hid (show sh.take n' = sh by rw [List.take_of_length_le (by rw [hl'.out]; exact Nat.le_refl _)])
          rw [TK.out] at ho HM
          go_wp2_with fail
          refine (implOnce _ _ _ (custs R sh) _ (RS.of_own ho) (by omega)).mono ?_; rintro e w6 ⟨A6, c6, rfl, o6, hb6⟩
          have b6 := below_app bw.out hb6 bw.out.size
          have o7 := own_base o6 bw.out.size
          clear hb6 o6
          go_wp2_with fail
          go_ret
          exact ⟨_, _, rfl, o7, b6⟩
set_option maxRecDepth 100000 in
set_option maxHeartbeats 4000000 in
theorem specRecallOf (A : Option Addr) (n c : Nat) (us : List Us) (A' : Option Addr) (n' c' : Nat) (sh : List Sh) (b : ByteArray) (w : World) (hr : RS w 3 A n (us.flatMap usCell)) (hn : n ≤ 1048600) (hr' : RS w 2 A' n' (sh.flatMap shCell)) (hn' : n' ≤ 1048600) (hs : usSmall us) (hs' : shsSmall sh) :
    Calls Try.prog 20 #[.slice A n c, .slice A' n' c', .string b] w fun e w' => ∃ A' c', e = .returned (.slice A' (recallL us sh b).length c') ∧ w'.ownsRow w.heap.size 9 1 (.slice A' (recallL us sh b).length c') (recallL us sh b).length ((recallL us sh b).flatMap stCell) ∧ Below w.heap.size w w' := by
  have hl := Lib.hid (hr.flatLen usCell_len (by omega))
  have hl' := Lib.hid (hr'.flatLen shCell_len (by omega))
  obtain ⟨i0, hi, hz0, hz1, hz2⟩ := info_parts stInfo
  have SS := Lib.hid hs'; clear hs'
  cases h : areUses us
  · have E := Lib.hid (recall_no (sh := sh) (.inl h) b)
    have H := Lib.hid h; clear h
    rw [E.out]
    go_enter Try.func20, Try.ntmps20
    go_wp2_with fail
    refine (specAreUses _ _ _ us _ hr hn hs).mono ?_; rw [H.out]; rintro e w1 ⟨rfl, hb1⟩
    have OE := own_base (own_empty w1 w1.heap.size 9 1 (Nat.le_refl _)) hb1.size
    have b2 := hb1.alloc hb1.size (Obj.cells #[] 9)
    go_wp2_with fail
    go_ret
    exact ⟨_, _, rfl, OE, b2⟩
  · cases h2 : areShips sh
    · have E := Lib.hid (recall_no (us := us) (.inr h2) b)
      have H := Lib.hid h; have H2 := Lib.hid h2; clear h h2
      rw [E.out]
      go_enter Try.func20, Try.ntmps20
      go_wp2_with fail
      refine (specAreUses _ _ _ us _ hr hn hs).mono ?_; rw [H.out]; rintro e w1 ⟨rfl, hb1⟩
      go_wp2_with fail
      refine (specAreShips _ _ _ sh _ (hr'.below hb1) hn' SS.out).mono ?_; rw [H2.out]; rintro e w2 ⟨rfl, hb2⟩
      have b2 := below_then hb1 hb2
      have OE := own_base (own_empty w2 w2.heap.size 9 1 (Nat.le_refl _)) b2.size
      have b3 := b2.alloc b2.size (Obj.cells #[] 9)
      go_wp2_with fail
      go_ret
      exact ⟨_, _, rfl, OE, b3⟩
    · have E := Lib.hid (recall_yes h h2 b)
      have L24 := ships_len h2
      rw [hl'.out] at L24
      have H := Lib.hid h; have H2 := Lib.hid h2; clear h h2
      rw [E.out]
      have RB := (reach_len false us b).2
      rw [hl.out] at RB
      obtain ⟨R, hR⟩ : ∃ R, reachL false us b = R := ⟨_, rfl⟩
      rw [hR] at RB
      rw [hR]
      go_enter Try.func20, Try.ntmps20
      go_wp2_with fail
      refine (specAreUses _ _ _ us _ hr hn hs).mono ?_; rw [H.out]; rintro e w1 ⟨rfl, hb1⟩
      go_wp2_with fail
      refine (specAreShips _ _ _ sh _ (hr'.below hb1) hn' SS.out).mono ?_; rw [H2.out]; rintro e w2 ⟨rfl, hb2⟩
      have B2 := Lib.hid (below_then hb1 hb2)
      clear hb2 hb1
      go_wp2_with fail
      have RD := hr.below ((B2.out.alloc B2.out.size (Obj.cells #[.string b] 9)))
      have ON := own_new w2 (base := w2.heap.size) (e := 9) (size := 1) (n := 1) #[.string b] (Nat.le_refl _) (by unfold maxLen; omega) rfl
      have RR := reach_rest false us b
      refine (specWalkDown _ _ _ us b _ RD hn).mono ?_; rintro e w3 ⟨A3, m3, c3, rfl, hm3, r3, hb3⟩
      have B3' := Lib.hid (below_then (below_box w2 _) hb3)
      have on := own_below ON hb3
      clear hb3 ON RD
      go_wp2_with (at_builtin; refine wpList_app _ rfl _ _ _ rfl w2.heap.size 9 i0 _ 1 16 Try.underlying24 hi hz0 hz1 hz2 rfl (by omega) _ 1 _ rfl on _ m3 _ _ rfl r3 (flat_one_cell stCell_one _) (by unfold maxLen; omega) (by omega) B3'.out.size ?_; intro A9 c9 w9 o9 g9 at9 b9; have B9 := Lib.hid (B2.out.trans ((B3'.out.trans b9).mono B2.out.size)); clear g9 at9 b9)
      have o9' : RS w9 1 A9 (1 + m3) ((reachL false us b).flatMap stCell) := by rw [RR, List.flatMap_cons]; exact RS.of_own o9
      clear o9 on
      have r3 := o9'
      clear o9'
      rw [hR] at r3
      have OE := own_empty w9 w9.heap.size 9 1 (Nat.le_refl _)
      go_wp2_with fail
      go_loopw [8, 9] (fun v i wr => ∃ (k m : Nat) (A' : Option Addr) (c' : Nat), k ≤ n' ∧ i = .int .i64 k ∧ v = .slice A' m c' ∧ m ≤ k ∧ Hid ((custs R (sh.take k)).length = m) ∧ wr.ownsRow w9.heap.size 9 1 (.slice A' m c') m ((custs R (sh.take k)).flatMap stCell) ∧ Below w9.heap.size w9 wr) (fun _ i _ => n' - (intOf i).toNat)
      case atStart => exact ⟨0, 0, _, _, Nat.zero_le _, rfl, rfl, Nat.le_refl _, rfl, OE, below_box w9 _⟩
      case round =>
        obtain ⟨k, m, A4, c4, hk, rfl, rfl, hmk, HM, ho, hb⟩ := hrel
        clear OE
        have zb := hb.size
        have bw := Lib.hid (below_app B9.out hb B9.out.size)
        by_cases hlt : k < n'
        · obtain ⟨g, off, rfl, ⟨batch, cust⟩, hx, c0, c1⟩ := (hr'.below bw.out).shAt hlt
          simp only at c0 c1
          have CI := Lib.hid (custs_in (R := R) hx); have CO := Lib.hid (custs_out (R := R) hx)
          simp only at CI CO
          clear hx
          have b1 := Lib.hid hb
          have rr := r3.below b1.out
          have o1 := ho
          have i1 : (0 : Int) ≤ k := by omega
          have i2 : (k : Int) < n' := by omega
          clear ho
          by_cases hin : batch ∈ R
          · have pp := posB_in hin
            have EE := Lib.hid (CI.out hin)
            go_wp2_with fail
            refine (specFind _ _ _ R batch _ rr (by omega)).mono ?_; rintro e w4 ⟨rfl, rfl⟩
            go_wp2_with (at_builtin; refine wpList_app _ rfl _ _ _ rfl w9.heap.size 9 i0 _ 1 16 Try.underlying24 hi hz0 hz1 hz2 rfl (by omega) _ m _ rfl (o1.alloc _) _ 1 1 (stCell cust) rfl (RS_new (by simp)) (stCell_one _) (by unfold maxLen; omega) (by omega) (by simp; omega) ?_; intro A5 c5 w5 o5 g5 at5 b5; have B5 := Lib.hid ((b1.out.alloc b1.out.size (Obj.cells #[.string cust] 9)).trans b5); clear g5 at5 b5)
            rw [← flat_one stCell, ← flat_append, ← EE.out] at o5
            have LE := Lib.hid (show (custs R (sh.take (k + 1))).length = m + 1 by rw [EE.out]; simp [HM.out])
            go_roundw
            case rel => exact ⟨k + 1, m + 1, A5, c5, by omega, by go_num, rfl, by omega, LE.out, o5, B5.out⟩
            case measure => simp [intOf]; omega
          · have pp := posB_none hin
            have p0 : ¬ 0 ≤ posB R batch := by omega
            have EE := Lib.hid (CO.out hin)
            go_wp2_with fail
            refine (specFind _ _ _ R batch _ rr (by omega)).mono ?_; rintro e w4 ⟨rfl, rfl⟩
            go_wp2_with fail
            go_roundw
            case rel => exact ⟨k + 1, m, A4, c4, by omega, by go_num, rfl, by omega, by rw [Hid, EE.out]; exact HM.out, by rw [EE.out]; exact o1, b1.out⟩
            case measure => simp [intOf]; omega
        · obtain rfl : n' = k := by omega
          have TK := Lib.hid (show sh.take n' = sh by rw [List.take_of_length_le (by rw [hl'.out]; exact Nat.le_refl _)])
          rw [TK.out] at ho HM
          go_wp2_with fail
          refine (specSortO _ _ _ (custs R sh) _ (RS.of_own ho) (by omega)).mono ?_; rintro e w6 ⟨A6, c6, rfl, o6, hb6⟩
          have b6 := below_app bw.out hb6 bw.out.size
          have o7 := own_base o6 bw.out.size
          clear hb6 o6
          go_wp2_with fail
          go_ret
          exact ⟨_, _, rfl, o7, b6⟩
end Go.Proofs.Ytaldlinekipblaa
