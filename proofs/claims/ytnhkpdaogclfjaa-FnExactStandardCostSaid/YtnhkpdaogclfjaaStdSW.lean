/- Standard costs: the walk of the reference's StandardCost. No condition. -/
import Derived.Test.YtnhkpdaogclfjaaStdS
import Derived.Test.YtnhkpdaogclfjaaHoldsW
import Derived.Deep.RegionHeld3
import Derived.Test.YtnhkpdaogclfjaaHeldLast
namespace Go.Proofs.Ytnhkpdaogclfjaa
open Go.ChangeShapes Go.WideShapes Go.ChangeAt Go.RowKit

theorem own_gr {w w' : World} {base size n g : Nat} {e : TypeId} {v : Value} {xs : List Value} (h : w.ownsRow base e size v n xs) (hg : w.grownBy w' (some g)) (hne : v.ownBlock ≠ some g) : w'.ownsRow base e size v n xs := own_grown h hg (.inr hne)
theorem below_gc {w w1 w2 : World} {g : Nat} (hb : Below w.heap.size w w1) (hg : w1.grownBy w2 (some g)) (h : w.heap.size ≤ g) : Below w.heap.size w w2 := hb.grown hg hb.size fun k hk => by injection hk with hk; omega
theorem cell_gr {w w' : World} {p : Addr} {v : Value} {g : Nat} (hg : w.grownBy w' (some g)) (hc : w.cell? p = some v) (hp : p.block < w.heap.size) (hne : p.block ≠ g) : w'.cell? p = some v :=
  (World.cell?_of_block (hg.block p.block hp (by simpa using hne))).trans hc
set_option maxRecDepth 100000 in
set_option maxHeartbeats 2000000 in
theorem specStd (Ac : Option Addr) (nc cc : Nat) (cat : List It) (A : Option Addr) (n c : Nat) (l : List Bl) (P : Option Addr) (np cp : Nat) (pr : List Nd) (s : ByteArray) (day : Int) (B : Option Addr) (m d : Nat) (ch : List Pk) (w : World)
    (hrc : RS w 8 Ac nc (cat.flatMap itCell)) (hnc : nc ≤ 9223372036854775807) (hokc : ∀ x ∈ cat, itOk x) (hr : BillsR w A n l) (hn : n ≤ 9223372036854775807) (hok : ∀ x ∈ l, billOk x)
    (hp : RS w 2 P np (pr.flatMap ndCell)) (hnp : np ≤ 9223372036854775807) (hrp : RS w 2 B m (ch.flatMap pkCell)) (hm : m ≤ 9223372036854775807) :
    Calls Try.prog 16 #[.slice Ac nc cc, .slice A n c, .slice P np cp, .string s, .int .i64 day, .slice B m d] w fun e w' => e = .returned (.tuple #[.int .i64 (stdN cat l pr s day ch), .bool (stdB cat l pr s day ch)]) ∧ Below w.heap.size w w' := by
  have hlc := Lib.hid (hrc.flatLen itCell_len (by omega))
  have hl := Lib.hid hr.len
  have OKC := Lib.hid hokc; have OK := Lib.hid hok
  clear hokc hok
  obtain ⟨fv, hfv⟩ : ∃ fv, fv = findAt cat s := ⟨_, rfl⟩
  have HF := Lib.hid hfv.symm
  clear hfv
  cases hbi : isBills cat l
  · have S0 := Lib.hid (show stdB cat l pr s day ch = false by simp [stdB, stdOk, hbi])
    have S1 := Lib.hid (std_no S0.out)
    go_enter Try.func16, Try.ntmps16
    go_wp2_with fail
    refine (specFind _ _ _ cat s _ hrc hnc).mono ?_; rw [HF.out]; rintro e w3 ⟨rfl, b3⟩
    go_wp2_with fail
    refine (specIsBills _ _ _ cat _ _ _ l _ (hrc.below b3) hnc OKC.out (hr.below b3) hn OK.out).mono ?_; rw [hbi]; rintro e w1 ⟨rfl, b1⟩
    go_wp2_with fail
    go_ret2
    exact ⟨by rw [S0.out, S1.out]; rfl, below_then b3 b1⟩
  have HBI := Lib.hid hbi
  clear hbi
  cases hap : arePrices cat pr
  · have S0 := Lib.hid (show stdB cat l pr s day ch = false by simp [stdB, stdOk, hap])
    have S1 := Lib.hid (std_no S0.out)
    go_enter Try.func16, Try.ntmps16
    go_wp2_with fail
    refine (specFind _ _ _ cat s _ hrc hnc).mono ?_; rw [HF.out]; rintro e w3 ⟨rfl, b3⟩
    go_wp2_with fail
    refine (specIsBills _ _ _ cat _ _ _ l _ (hrc.below b3) hnc OKC.out (hr.below b3) hn OK.out).mono ?_; rw [HBI.out]; rintro e w1 ⟨rfl, b1⟩
    have b4 := below_then b3 b1
    go_wp2_with fail
    refine (specArePrices _ _ _ cat _ _ _ pr _ (hrc.below b4) hnc (hp.below b4) hnp OKC.out).mono ?_; rw [hap]; rintro e w2 ⟨rfl, b2⟩
    go_wp2_with fail
    go_ret2
    exact ⟨by rw [S0.out, S1.out]; rfl, below_then b4 b2⟩
  have HAP := Lib.hid hap
  clear hap
  by_cases hf0 : fv < 0
  · have S0 := Lib.hid (show stdB cat l pr s day ch = false by
      have : ¬ 0 ≤ findAt cat s := by rw [HF.out]; omega
      simp [stdB, stdOk, this])
    have S1 := Lib.hid (std_no S0.out)
    go_enter Try.func16, Try.ntmps16
    go_wp2_with fail
    refine (specFind _ _ _ cat s _ hrc hnc).mono ?_; rw [HF.out]; rintro e w3 ⟨rfl, b3⟩
    go_wp2_with fail
    refine (specIsBills _ _ _ cat _ _ _ l _ (hrc.below b3) hnc OKC.out (hr.below b3) hn OK.out).mono ?_; rw [HBI.out]; rintro e w1 ⟨rfl, b1⟩
    have b4 := below_then b3 b1
    go_wp2_with fail
    refine (specArePrices _ _ _ cat _ _ _ pr _ (hrc.below b4) hnc (hp.below b4) hnp OKC.out).mono ?_; rw [HAP.out]; rintro e w2 ⟨rfl, b2⟩
    go_wp2_with fail
    go_ret2
    exact ⟨by rw [S0.out, S1.out]; rfl, below_then b4 b2⟩
  obtain ⟨a, rfl⟩ := Int.eq_ofNat_of_zero_le (show 0 ≤ fv by omega)
  have HFS := Lib.hid (show 0 ≤ findAt cat s by rw [HF.out]; omega)
  have S0 := Lib.hid (show stdB cat l pr s day ch = decide (0 ≤ stdC cat l pr s day ch) by
    simp [stdB, stdOk, HBI.out, HAP.out, HFS.out])
  have TR := isBills_true HBI.out
  have n24 : n ≤ 24 := by rw [← hl.out]; exact TR.2.1
  have nc12 : nc ≤ 12 := by rw [← hlc.out]; exact isCat_len TR.1
  have IC := Lib.hid (show ∀ x ∈ l, isCond x.cond = true from fun x hx => (lineOk_true (TR.2.2.1 x hx)).2.2.2.2.2.2.2.2)
  have LO := Lib.hid TR.2.2.2
  have HC := Lib.hid TR.1
  have BI := Lib.hid (bills_in HBI.out)
  have QT := Lib.hid (show ∀ x ∈ l, 1 ≤ x.qty ∧ x.qty ≤ 1000 from fun x hx => ⟨(lineOk_true (TR.2.2.1 x hx)).2.2.1, (lineOk_true (TR.2.2.1 x hx)).2.2.2.1⟩)
  obtain ⟨f, hf⟩ : ∃ f, f = costS (force l day ch) (priceIn pr) cat.length := ⟨_, rfl⟩
  have FOK := Lib.hid (show ∀ s, cOk (f s) by rw [hf]; exact costS_ok _ _ (price_ok pr) _)
  have FL := Lib.hid (show ∀ s, 0 ≤ findAt cat s → f s = l.foldl (csLine f s day ch) (priceIn pr s) by rw [hf]; exact fun s hs => cost_line HBI.out (priceIn pr) day ch hs)
  have FV := Lib.hid (show stdC cat l pr s day ch = f s by rw [hf]; rfl)
  have SN := Lib.hid (std_yes (cat := cat) (l := l) (pr := pr) (s := s) (day := day) (ch := ch))
  have SX := Lib.hid (std_no (cat := cat) (l := l) (pr := pr) (s := s) (day := day) (ch := ch))
  rw [FV.out] at S0 SN
  have AIN := Lib.hid (ord_all HBI.out HF.out)
  have PART := Lib.hid (fun (k p q : Nat) (x : Bl) => ord_part (k := k) (p := p) (q := q) (x := x) HBI.out)
  have OLT := Lib.hid (fun (k p : Nat) => ord_lt (cat := cat) (l := l) (k := k) (p := p))
  clear hf TR FV
  obtain ⟨i0, hi, hz0, hz1, hz2⟩ := info_parts numInfo
  go_enter Try.func16, Try.ntmps16
  go_wp2_with fail
  refine (specFind _ _ _ cat s _ hrc hnc).mono ?_; rw [HF.out]; rintro e w3 ⟨rfl, b3⟩
  go_wp2_with fail
  refine (specIsBills _ _ _ cat _ _ _ l _ (hrc.below b3) hnc OKC.out (hr.below b3) hn OK.out).mono ?_; rw [HBI.out]; rintro e w1 ⟨rfl, b1⟩
  have b4 := below_then b3 b1
  go_wp2_with fail
  refine (specArePrices _ _ _ cat _ _ _ pr _ (hrc.below b4) hnc (hp.below b4) hnp OKC.out).mono ?_; rw [HAP.out]; rintro e w2 ⟨rfl, b2⟩
  have B5 := below_then b4 b2
  clear b1 b2 b3 b4
  have z5 := B5.size
  go_wp2_with (at_make; refine wpList_make_full _ rfl _ _ _ rfl w.heap.size 3 i0 _ 1 Try.underlying77 hi hz0 hz1 _ _ _ _ nc rfl rfl rfl rfl (by rw [hz2]; omega) (by unfold maxLen; omega) z5 ?_; intro w6 hown6 hg6)
  rw [made_zero] at hown6
  have bm : Below w2.heap.size w2 w6 := ⟨hg6.os, hg6.tape, hg6.output, hg6.size, fun k hk => hg6.block k hk (by simp)⟩
  have B6 := below_then B5 bm
  clear hg6 bm
  refine (specLevels Ac nc cc cat A n c l w6 (hrc.below B6) nc12 (hr.below B6) n24 BI.out).mono ?_; rintro e w7 ⟨Lv, lm, ld, rfl, o7, b7⟩
  rw [lvRes_yes LO.out] at o7
  obtain rfl : nc = lm := by have := own_ints o7; rw [lvs_len, hlc.out] at this; exact this
  go_wp2_with fail
  refine (specOrder Lv nc ld (lvs cat l) w7 (RS.of_own o7) nc12).mono ?_; rintro e W1 ⟨Od, q, od, rfl, hq, o8, b8⟩
  have B8 := Lib.hid (below_app (below_app B6 b7 B6.size) b8 (below_app B6 b7 B6.size).size)
  have OO := Lib.hid o8
  have OL := Lib.hid (show (lvOrder (lvs cat l)).length = q by have := own_ints o8; simpa [natInts] using this)
  have CO := Lib.hid (own_below (own_below hown6 b7) b8)
  have gz : w2.heap.size < w7.heap.size ∨ nc = 0 := by
    rcases Nat.eq_zero_or_pos nc with h | h
    · exact .inr h
    · obtain ⟨g, e, _, h2, _⟩ := own_addr (own_below hown6 b7) h
      injection e with e; injection e with e
      exact .inl (by omega)
  obtain ⟨gc, hgc⟩ : ∃ gc, gc = w2.heap.size := ⟨_, rfl⟩
  rw [← hgc] at CO gz z5 ⊢
  have ON := Lib.hid (show (Value.slice Od q od).ownBlock ≠ some gc ∨ q = 0 by
    rcases gz with h | h
    · refine .inl fun e => ?_
      have := (o8.lt gc e).1
      omega
    · refine .inr ?_
      rw [← OL.out]
      cases ho : lvOrder (lvs cat l) with
      | nil => rfl
      | cons x t =>
        have : x ∈ lvOrder (lvs cat l) := by rw [ho]; simp
        have := (order_mem.1 this).1
        rw [lvs_len, hlc.out] at this
        omega)
  clear o7 o8 b7 b8 hown6 B5 B6 hgc gz
  obtain ⟨ord, hord⟩ : ∃ ord, ord = lvOrder (lvs cat l) := ⟨_, rfl⟩
  rw [← hord] at OO OL AIN PART OLT
  clear hord
  go_wp2_with fail
  go_loopw [17] (fun kk wr => ∃ (k : Nat) (cs : List Int), k ≤ q ∧ kk = .int .i64 ((k : Int) - 1) ∧ wr.ownsRow w.heap.size 3 1 (.slice (some ⟨gc, 0, none⟩) nc nc) nc (intCells cs) ∧ W1.grownBy wr (some gc) ∧ Hid (Reckoned cat f ord k cs) ∧ Hid (∀ i, cOk (lvAt cs i))) (fun kk _ => ((intOf kk) + 1).toNat)
  case atStart => exact ⟨q, List.replicate nc 0, Nat.le_refl _, rfl, CO.out, grown_of_belowM _ (Below.refl _ _), by rw [← OL.out]; exact reckoned_end _ _ _ _, fun i => by
    have : lvAt (List.replicate nc 0) i = 0 := by
      unfold lvAt
      rw [List.getD_eq_getElem?_getD, List.getElem?_replicate]
      split <;> rfl
    rw [this]; unfold cOk; omega⟩
  case round =>
    obtain ⟨k, cs, hk, rfl, ho, hg, hR, hC⟩ := hrel
    clear CO
    have hb := Lib.hid (below_gc B8.out hg z5)
    rcases Nat.eq_zero_or_pos k with hk0 | hk0
    · subst hk0
      have aq := AIN.out
      obtain ⟨ja, hja, hja2⟩ := List.getElem_of_mem aq
      have an : a < nc := by rw [← hlc.out]; exact OLT.out ja a (by rw [List.getElem?_eq_getElem hja, hja2])
      have VA := Lib.hid (show lvAt cs a = f s by rw [hR.out a (by simpa using aq), codeAt_find HF.out])
      obtain ⟨_, ec, _, da, _, _⟩ := int_own ho an
      injection ec with ec; injection ec with ec
      subst ec
      rw [VA.out] at da
      have fb := FOK.out s
      unfold cOk at fb
      obtain ⟨v, hv⟩ : ∃ v, v = f s := ⟨_, rfl⟩
      rw [← hv] at da fb S0 SN
      have a1 : (0 : Int) ≤ a := by omega
      have a2 : (a : Int) < nc := by omega
      clear hv aq hja hja2 hg ho
      by_cases hv0 : v < 0
      · have D0 := Lib.hid (show stdB cat l pr s day ch = false by rw [S0.out]; simp; omega)
        have D1 := Lib.hid (SX.out D0.out)
        go_wp2_with fail
        go_ret2
        exact ⟨by rw [D0.out, D1.out]; rfl, hb.out⟩
      · have D0 := Lib.hid (show stdB cat l pr s day ch = true by rw [S0.out]; simp; omega)
        have D1 := Lib.hid (SN.out D0.out)
        go_wp2_with fail
        go_ret2
        exact ⟨by rw [D0.out, D1.out]; rfl, hb.out⟩
    · obtain ⟨j, rfl⟩ : ∃ j, k = j + 1 := ⟨k - 1, by omega⟩
      have ON2 : (Value.slice Od q od).ownBlock ≠ some gc := ON.out.resolve_right (by omega)
      have OR := own_gr OO.out hg ON2
      obtain ⟨go, offo, rfl, pv, hpx, cop⟩ := (RS.of_own OR).intAt (show j < q by omega)
      obtain ⟨p, hop⟩ : ∃ p, ord[j]? = some p := ⟨_, List.getElem?_eq_getElem (by rw [OL.out]; omega)⟩
      obtain rfl : pv = (p : Int) := by
        have : (natInts ord)[j]? = some (p : Int) := by simp [natInts, hop]
        rw [this] at hpx; injection hpx with hpx; exact hpx.symm
      have pn : p < nc := by rw [← hlc.out]; exact OLT.out j p hop
      obtain ⟨gi, offi, rfl, ⟨code, unit, kind, lead, rule, size, safety, scrap⟩, hxi, d0, d1, d2, d3, d4, d5, d6, d7⟩ := (hrc.below hb.out).itAt pn
      simp only at d0 d1 d2 d3 d4 d5 d6 d7
      have FC := Lib.hid (show findAt cat code = p from find_self HC.out hxi)
      have CA := Lib.hid (show codeAt cat p = code from codeAt_of hxi)
      have FCO := Lib.hid (FL.out code (by rw [FC.out]; omega))
      have HOP := Lib.hid hop
      have kj : ((j + 1 : Nat) : Int) - 1 = j := by omega
      rw [kj]
      have j1 : (0 : Int) ≤ j := by omega
      have j2 : (j : Int) < q := by omega
      have p1 : (0 : Int) ≤ p := by omega
      have p2 : (p : Int) < nc := by omega
      clear hop hpx hxi kj
      have bx := below_box wr (Obj.cells #[.string code, .string unit, .int .i64 kind, .int .i64 lead, .int .i64 rule, .int .i64 size, .int .i64 safety, .int .i64 scrap] 64)
      obtain ⟨U, hU⟩ : ∃ U, U = wr.alloc (Obj.cells #[.string code, .string unit, .int .i64 kind, .int .i64 lead, .int .i64 rule, .int .i64 size, .int .i64 safety, .int .i64 scrap] 64) := ⟨_, rfl⟩
      have XU := Lib.hid (show U.heap[wr.heap.size]? = some (Obj.cells #[.string code, .string unit, .int .i64 kind, .int .i64 lead, .int .i64 rule, .int .i64 size, .int .i64 safety, .int .i64 scrap] 64 (0, 0)) by rw [hU]; exact blk_new1 _ _)
      have GU := Lib.hid (show W1.grownBy U (some gc) by rw [hU]; exact hg.trans (grown_of_belowM _ bx))
      have CU := Lib.hid (show U.ownsRow w.heap.size 3 1 (.slice (some ⟨gc, 0, none⟩) nc nc) nc (intCells cs) by rw [hU]; exact ho.alloc _)
      have OU := Lib.hid (show U.ownsRow w7.heap.size 3 1 (.slice (some ⟨go, offo, none⟩) q od) q (intCells (natInts ord)) by rw [hU]; exact OR.alloc _)
      have cu := cell_alloc cop (Obj.cells #[.string code, .string unit, .int .i64 kind, .int .i64 lead, .int .i64 rule, .int .i64 size, .int .i64 safety, .int .i64 scrap] 64)
      rw [← hU] at cu
      have zU : gc < wr.heap.size := by
        obtain ⟨g, e, _, h2, _⟩ := own_addr ho (show 0 < nc by omega)
        injection e with e; injection e with e
        omega
      go_upto_region 10 with fail
      rw [← hU]
      obtain ⟨xb, hxb⟩ : ∃ xb, xb = wr.heap.size := ⟨_, rfl⟩
      rw [← hxb] at XU zU ⊢
      clear hxb hU bx ho hg OR cop d0 d1 d2 d3 d4 d5 d6 d7 hb
      have x0 := blk_at XU.out (j := 0) rfl
      have BU := Lib.hid (below_gc B8.out GU.out z5)
      obtain ⟨_, ec, _, dc, fc, SC⟩ := int_own CU.out pn
      injection ec with ec; injection ec with ec
      subst ec
      have CP := specPriceIn P np cp pr code U.drew ((hp.below BU.out).drewN 1) hnp
      refine wp_region_held_drew (S := fun v => v.cell? ⟨go, offo + j, none⟩ = some (.int .i64 (p : Int)) ∧ v.cell? ⟨xb, 0, none⟩ = some (.string code)) (by kernel_rfl) ⟨cu, x0⟩ (fun hHeld => ?_)
      refine wpAnyH_take (i := 0) (oi := ?_) (v := ?_) (by simp only [List.getElem?_toArray, List.getElem?_cons_zero]; rfl) (by kernel_rfl) (by kernel_rfl) (by kernel_rfl) ?_ (Or.inl ⟨by rfl, ?_⟩) hHeld ?_
      rotate_left 1
      focus exact fun _ _ _ h => h
      focus (intro w hSw; (try dsimp only at hSw); go_simp; try with_reducible rfl)
      (try simp only [Act.put, List.setIfInBounds_toArray, List.set_cons_zero, List.set_cons_succ])
      refine wpAnyH_take (i := 1) (oi := ?_) (v := ?_) (by simp only [List.getElem?_toArray, List.getElem?_cons_succ, List.getElem?_cons_zero]; rfl) (by kernel_rfl) (by kernel_rfl) (by kernel_rfl) ?_ (Or.inl ⟨by rfl, ?_⟩) hHeld ?_
      rotate_left 1
      focus exact fun _ _ _ h => h
      focus (intro w hSw; (try dsimp only at hSw); go_simp; try with_reducible rfl)
      (try simp only [Act.put, List.setIfInBounds_toArray, List.set_cons_zero, List.set_cons_succ])
      refine wpAnyH_take (i := 2) (oi := ?_) (v := ?_) (by simp only [List.getElem?_toArray, List.getElem?_cons_succ, List.getElem?_cons_zero]; rfl) (by kernel_rfl) (by kernel_rfl) (by kernel_rfl) ?_ (Or.inl ⟨by rfl, ?_⟩) hHeld ?_
      rotate_left 1
      focus exact fun _ _ _ h => h
      focus (intro w hSw; (try dsimp only at hSw); go_simp; try with_reducible rfl)
      (try simp only [Act.put, List.setIfInBounds_toArray, List.set_cons_zero, List.set_cons_succ])
      refine wpAnyH_take (i := 3) (oi := ?_) (v := ?_) (by simp only [List.getElem?_toArray, List.getElem?_cons_succ, List.getElem?_cons_zero]; rfl) (by kernel_rfl) (by kernel_rfl) (by kernel_rfl) ?_ (Or.inl ⟨by rfl, ?_⟩) hHeld ?_
      rotate_left 1
      focus exact fun _ _ _ h => h
      focus (intro w hSw; (try dsimp only at hSw); go_simp; try with_reducible rfl)
      (try simp only [Act.put, List.setIfInBounds_toArray, List.set_cons_zero, List.set_cons_succ])
      refine wpAnyH_take (i := 4) (oi := ?_) (v := ?_) (by simp only [List.getElem?_toArray, List.getElem?_cons_succ, List.getElem?_cons_zero]; rfl) (by kernel_rfl) (by kernel_rfl) (by kernel_rfl) ?_ (Or.inl ⟨by rfl, ?_⟩) hHeld ?_
      rotate_left 1
      focus exact fun _ _ _ h => h
      focus (intro w hSw; (try dsimp only at hSw); go_simp; try with_reducible rfl)
      (try simp only [Act.put, List.setIfInBounds_toArray, List.set_cons_zero, List.set_cons_succ])
      refine wpAnyH_take (i := 5) (oi := ?_) (v := ?_) (by simp only [List.getElem?_toArray, List.getElem?_cons_succ, List.getElem?_cons_zero]; rfl) (by kernel_rfl) (by kernel_rfl) (by kernel_rfl) ?_ (Or.inl ⟨by rfl, ?_⟩) hHeld ?_
      rotate_left 1
      focus exact fun _ _ _ h => h
      focus (intro w hSw; (try dsimp only at hSw); go_simp; try with_reducible rfl)
      (try simp only [Act.put, List.setIfInBounds_toArray, List.set_cons_zero, List.set_cons_succ])
      refine wpAnyH_take (i := 6) (oi := ?_) (v := ?_) (by simp only [List.getElem?_toArray, List.getElem?_cons_succ, List.getElem?_cons_zero]; rfl) (by kernel_rfl) (by kernel_rfl) (by kernel_rfl) ?_ (Or.inl ⟨by rfl, ?_⟩) hHeld ?_
      rotate_left 1
      focus exact fun _ _ _ h => h
      focus (intro w hSw; (try dsimp only at hSw); go_simp; try with_reducible rfl)
      (try simp only [Act.put, List.setIfInBounds_toArray, List.set_cons_zero, List.set_cons_succ])
      refine wpAnyH_take (i := 7) (oi := ?_) (v := ?_) (by simp only [List.getElem?_toArray, List.getElem?_cons_succ, List.getElem?_cons_zero]; rfl) (by kernel_rfl) (by kernel_rfl) (by kernel_rfl) ?_ (Or.inl ⟨by rfl, ?_⟩) hHeld ?_
      rotate_left 1
      focus exact fun _ _ _ h => h
      focus (intro w hSw; (try dsimp only at hSw); go_simp; try with_reducible rfl)
      (try simp only [Act.put, List.setIfInBounds_toArray, List.set_cons_zero, List.set_cons_succ])
      refine wpAnyH_ready (rs := [8]) (by kernel_rfl) (by simp) ?_
      refine AllReadyH.cons (o := ?_) (by simp only [List.getElem?_toArray, List.getElem?_cons_succ, List.getElem?_cons_zero]; rfl) (fun K hK => ?_) AllReadyH.nil
      go_simp
      (go_at_call 26; refine CP.mono ?_; rintro e w9 ⟨rfl, b9⟩)
      go_wp2_with fail
      have b9 : Below U.heap.size U w9 := (Below.refl _ _).drew.trans b9
      refine hK.out _ _ (⟨cell_keep b9 cu, cell_keep b9 x0⟩) (fun hHeld => ?_)
      clear hK K
      (try simp only [Act.put, List.setIfInBounds_toArray, List.set_cons_zero, List.set_cons_succ])
      have C9 := own_below CU.out b9
      obtain ⟨_, ec, _, dc, fc, SC⟩ := int_own C9 pn
      injection ec with ec; injection ec with ec
      subst ec
      have X9 := Lib.hid (blk_keep b9 XU.out)
      have xg : xb ≠ gc := by omega
      have OG := Lib.hid (own_below OU.out b9)
      have G9 := Lib.hid (GU.out.trans (grown_of_belowM _ b9))
      have OW := Lib.hid (SC (priceIn pr code))
      have GS := Lib.hid (grown_set w9 ⟨gc, p, none⟩ (.int .i64 (priceIn pr code)))
      have c9 := cell_keep b9 cu
      have cne : go ≠ gc := fun e => ON2 (by rw [← e]; rfl)
      have co9 : (w9.setCell ⟨gc, p, none⟩ (.int .i64 (priceIn pr code))).cell? ⟨go, offo + j, none⟩ = some (.int .i64 (p : Int)) := cell_gr GS.out c9 (World.block_lt_of_cell? _ _ c9) cne
      have X10 := Lib.hid (blk_gr GS.out X9.out xg)
      refine wpAnyH_take (i := 9) (oi := ?_) (v := ?_) (by simp only [List.getElem?_toArray, List.getElem?_cons_succ, List.getElem?_cons_zero]; rfl) (by kernel_rfl) (by kernel_rfl) (by kernel_rfl) ?_ (Or.inl ⟨by rfl, ?_⟩) hHeld ?_
      rotate_left 1
      focus exact fun _ _ _ h => h
      focus (intro w hSw; (try dsimp only at hSw); go_simp; try with_reducible rfl)
      (try simp only [Act.put, List.setIfInBounds_toArray, List.set_cons_zero, List.set_cons_succ])
      refine wpAnyH_ready (rs := [10]) (by kernel_rfl) (by simp) ?_
      refine AllReadyH.cons (o := ?_) (by simp only [List.getElem?_toArray, List.getElem?_cons_succ, List.getElem?_cons_zero]; rfl) (fun K hK => ?_) AllReadyH.nil
      go_simp
      refine hK.out _ _ (⟨co9, blk_at X10.out rfl⟩) (fun hHeld => ?_)
      clear hK K
      (try simp only [Act.put, List.setIfInBounds_toArray, List.set_cons_zero, List.set_cons_succ])
      refine wpAnyH_done (by kernel_rfl) ?_ _
      obtain ⟨V0, hV0⟩ : ∃ V0, V0 = w9.setCell ⟨gc, p, none⟩ (.int .i64 (priceIn pr code)) := ⟨_, rfl⟩
      have G10 := Lib.hid (G9.out.trans GS.out)
      have O10 := Lib.hid (own_gr OG.out GS.out ON2)
      rw [← hV0] at OW X10 co9 G10 ⊢
      have CSL : cs.length = nc := own_ints C9
      have PZ := Lib.hid (show lvAt (cs.set p (priceIn pr code)) p = priceIn pr code by rw [lvAt_set (by omega)]; simp)
      have PN := Lib.hid (show ∀ i, i ≠ p → lvAt (cs.set p (priceIn pr code)) i = lvAt cs i from fun i hi => by rw [lvAt_set (by omega), if_neg hi])
      have PB := Lib.hid (price_ok pr code)
      clear hV0 hHeld dc fc SC C9 X9 OG G9 GS c9 CP b9 CU OU GU XU BU cu x0 O10
      go_wp2_with fail
      go_loopw [19] (fun i wz => ∃ (t : Nat) (cs' : List Int), t ≤ n ∧ i = .int .i64 t ∧ wz.ownsRow w.heap.size 3 1 (.slice (some ⟨gc, 0, none⟩) nc nc) nc (intCells cs') ∧ V0.grownBy wz (some gc) ∧ Hid (lvAt cs' p = (l.take t).foldl (csLine f code day ch) (priceIn pr code)) ∧ Hid (∀ i, i ≠ p → lvAt cs' i = lvAt cs i)) (fun i _ => n - (intOf i).toNat)
      case atStart => exact ⟨0, _, Nat.zero_le _, rfl, OW.out, grown_of_belowM _ (Below.refl _ _), PZ, PN⟩
      case round =>
        obtain ⟨t, cs', ht, rfl, oz, gz, hZ, hN⟩ := hrel
        have BZ := Lib.hid (below_gc B8.out (G10.out.trans gz) z5)
        by_cases hlt : t < n
        · obtain ⟨gl, offl, rfl, ⟨par, part, qty, fr, un, cond⟩, eA, en, ec, hx, c0, c1, c2, c3, c4, c5, hre⟩ := (hr.below BZ.out).blAt hlt
          simp only at c0 c1 c2 c3 c4 hre
          have hxm := List.mem_of_getElem? hx
          have hic := IC.out _ hxm
          have hbi := BI.out _ hxm
          have hqt := QT.out _ hxm
          have FT := Lib.hid (csl_take (f := f) (s := code) (day := day) (ch := ch) (t := priceIn pr code) hx)
          have ZB := csl_ok (f := f) (s := code) (day := day) (ch := ch) (l.take t) _ PB.out
          rw [← hZ.out] at FT ZB
          have t1 : (0 : Int) ≤ t := by omega
          have t2 : (t : Int) < n := by omega
          have xz := blk_at (blk_gr gz X10.out xg) (j := 0) rfl
          simp only at hic hbi hqt
          by_cases hpc : par = code
          rotate_left
          · have HFS := Lib.hid (FT.out.trans (csl_no (fun h => hpc h.1)))
            have ne := text_ne hpc
            have nb : (par.toList == code.toList) = false := by simpa using ne
            clear hpc hx hxm FT
            go_wp2_with fail
            go_quiet (fail)
            have bD := below_drewN (Below.refl wr.heap.size wr) nq
            have OS := Lib.hid (own_below oz bD)
            have GN := Lib.hid (gz.trans (grown_of_belowM _ bD))
            clear bD
            go_wp2_with fail
            go_roundw
            case rel => exact ⟨t + 1, cs', by omega, by go_num, OS.out, GN.out, Lib.hid HFS.out.symm, hN⟩
            case measure => simp [intOf]; omega
          subst hpc
          have HON := Lib.hid (fun (X : WX) => (show Calls Try.prog 44 #[.agg #[.string par, .string part, .int .i64 qty, .int .i64 fr, .int .i64 un, .slice eA en ec], .int .i64 day, .slice B m d] (wext wr X) fun e w' => e = .returned (.bool (lineOn day ch ⟨par, part, qty, fr, un, cond⟩)) ∧ ∃ y, w' = wext wr y from
            ext_call (specOn ⟨par, part, qty, fr, un, cond⟩ eA en ec day B m d ch (wext wr X) (hre.below (below_wext _ _)) ((hrp.below BZ.out).below (below_wext _ _)) hm hic)))
          have e0 := cell_wext c0; have e1 := cell_wext c1; have e2 := cell_wext c2; have e3 := cell_wext c3; have e4 := cell_wext c4; have e5 := cell_wext c5; have ex := cell_wext xz
          obtain ⟨qv, hqv⟩ := Int.eq_ofNat_of_zero_le hbi.2
          simp only at hqv
          have HPQ := Lib.hid (PART.out j p qv _ HOP.out hxm FC.out hqv)
          have HQV := Lib.hid hqv
          have QN : qv < nc := by
            have := findAt_lt (cat := cat) (s := part) (by rw [hqv]; omega)
            rw [hqv, hlc.out] at this
            exact this
          have QF := Lib.hid (show lvAt cs' qv = f part by
            rw [hN.out qv HPQ.out.2, hR.out qv HPQ.out.1, codeAt_find HQV.out])
          have fb := FOK.out part
          unfold cOk at fb ZB
          clear hqv hbi hx hxm hic hre
          cases hon : lineOn day ch ⟨par, part, qty, fr, un, cond⟩
          · have HFS := Lib.hid (FT.out.trans (csl_no (fun h => by rw [hon] at h; cases h.2)))
            have HO := Lib.hid hon
            rw [hon] at HON
            clear hon FT
            go_upto_region 14 with fail
            refine wp_region_ext (by kernel_rfl) (by kernel_rfl) ?_
            repeat (go_big_quiet_step ((go_at_call 44; exact HON.out _)))
            refine wpQuiet_nil ?_
            intro _ hw'; obtain ⟨ny, hw''⟩ := hw'; subst hw''
            have bD := below_wext wr ny
            have OS := Lib.hid (own_below oz bD)
            have GN := Lib.hid (gz.trans (grown_of_belowM _ bD))
            clear bD e0 e1 e2 e3 e4 e5 ex
            go_wp2_with fail
            go_roundw
            case rel => exact ⟨t + 1, cs', by omega, by go_num, OS.out, GN.out, Lib.hid HFS.out.symm, hN⟩
            case measure => simp [intOf]; omega
          · have HFS := Lib.hid (FT.out.trans (csl_yes (x := ⟨par, part, qty, fr, un, cond⟩) rfl hon))
            simp only at HFS
            rw [hon] at HON
            clear hon FT
            go_upto_region 14 with fail
            refine wp_region_ext (by kernel_rfl) (by kernel_rfl) ?_
            repeat (go_big_quiet_step ((go_at_call 44; exact HON.out _)))
            refine wpQuiet_nil ?_
            intro _ hw'; obtain ⟨ny, hw''⟩ := hw'; subst hw''
            have bD := below_wext wr ny
            have co11 := e1 ny; have co12 := e2 ny
            have coz := cell_keep bD (cell_gr gz co9 (World.block_lt_of_cell? _ _ co9) cne)
            obtain ⟨V, hV⟩ : ∃ V, V = wext wr ny := ⟨_, rfl⟩
            rw [← hV] at bD co11 co12 coz ⊢
            have CV := own_below oz bD
            have GV := Lib.hid (gz.trans (grown_of_belowM _ bD))
            have BV := Lib.hid (below_gc B8.out (G10.out.trans GV.out) z5)
            clear hV e0 e1 e2 e3 e4 e5 ex HON c0 c1 c2 c3 c4 c5 xz oz gz bD BZ
            obtain ⟨_, ec2, _, dp, fp, SP⟩ := int_own CV pn
            injection ec2 with ec2; injection ec2 with ec2
            subst ec2
            obtain ⟨_, ec2, _, dq, _, _⟩ := int_own CV QN
            injection ec2 with ec2; injection ec2 with ec2
            subst ec2
            go_upto_region 15 with fail
            refine wp_region_cut (S := fun v => v.cell? ⟨go, offo + j, none⟩ = some (.int .i64 (p : Int)) ∧ v.cell? ⟨gl, offl + t * 6 + 1, none⟩ = some (.string part) ∧ v.cell? ⟨gl, offl + t * 6 + 2, none⟩ = some (.int .i64 qty) ∧ v.cell? ⟨gc, p, none⟩ = some (.int .i64 (lvAt cs' p)) ∧ v.cell? ⟨gc, qv, none⟩ = some (.int .i64 (lvAt cs' qv))) 30 (by kernel_rfl) (by kernel_rfl) (by simp only [List.pop_toArray, List.dropLast_cons_cons, List.dropLast_singleton]; rfl) ⟨coz, co11, co12, dp, dq⟩ (fun hHeld => ?_)
            refine wpAnyH_take (i := 0) (oi := ?_) (v := ?_) (by simp only [List.getElem?_toArray, List.getElem?_cons_zero]; rfl) (by kernel_rfl) (by kernel_rfl) (by kernel_rfl) ?_ (Or.inl ⟨by rfl, ?_⟩) hHeld ?_
            rotate_left 1
            focus exact CutPost.panic fun _ _ _ h => h
            focus (intro w hSw; (try dsimp only at hSw); go_simp; try with_reducible rfl)
            (try simp only [Act.put, List.setIfInBounds_toArray, List.set_cons_zero, List.set_cons_succ])
            refine wpAnyH_take (i := 1) (oi := ?_) (v := ?_) (by simp only [List.getElem?_toArray, List.getElem?_cons_succ, List.getElem?_cons_zero]; rfl) (by kernel_rfl) (by kernel_rfl) (by kernel_rfl) ?_ (Or.inl ⟨by rfl, ?_⟩) hHeld ?_
            rotate_left 1
            focus exact CutPost.panic fun _ _ _ h => h
            focus (intro w hSw; (try dsimp only at hSw); go_simp; try with_reducible rfl)
            (try simp only [Act.put, List.setIfInBounds_toArray, List.set_cons_zero, List.set_cons_succ])
            refine wpAnyH_take (i := 2) (oi := ?_) (v := ?_) (by simp only [List.getElem?_toArray, List.getElem?_cons_succ, List.getElem?_cons_zero]; rfl) (by kernel_rfl) (by kernel_rfl) (by kernel_rfl) ?_ (Or.inl ⟨by rfl, ?_⟩) hHeld ?_
            rotate_left 1
            focus exact CutPost.panic fun _ _ _ h => h
            focus (intro w hSw; (try dsimp only at hSw); go_simp; try with_reducible rfl)
            (try simp only [Act.put, List.setIfInBounds_toArray, List.set_cons_zero, List.set_cons_succ])
            refine wpAnyH_take (i := 3) (oi := ?_) (v := ?_) (by simp only [List.getElem?_toArray, List.getElem?_cons_succ, List.getElem?_cons_zero]; rfl) (by kernel_rfl) (by kernel_rfl) (by kernel_rfl) ?_ (Or.inl ⟨by rfl, ?_⟩) hHeld ?_
            rotate_left 1
            focus exact CutPost.panic fun _ _ _ h => h
            focus (intro w hSw; (try dsimp only at hSw); go_simp; try with_reducible rfl)
            (try simp only [Act.put, List.setIfInBounds_toArray, List.set_cons_zero, List.set_cons_succ])
            refine wpAnyH_take (i := 4) (oi := ?_) (v := ?_) (by simp only [List.getElem?_toArray, List.getElem?_cons_succ, List.getElem?_cons_zero]; rfl) (by kernel_rfl) (by kernel_rfl) (by kernel_rfl) ?_ (Or.inl ⟨by rfl, ?_⟩) hHeld ?_
            rotate_left 1
            focus exact CutPost.panic fun _ _ _ h => h
            focus (intro w hSw; (try dsimp only at hSw); go_simp; try with_reducible rfl)
            (try simp only [Act.put, List.setIfInBounds_toArray, List.set_cons_zero, List.set_cons_succ])
            refine wpAnyH_take (i := 5) (oi := ?_) (v := ?_) (by simp only [List.getElem?_toArray, List.getElem?_cons_succ, List.getElem?_cons_zero]; rfl) (by kernel_rfl) (by kernel_rfl) (by kernel_rfl) ?_ (Or.inl ⟨by rfl, ?_⟩) hHeld ?_
            rotate_left 1
            focus exact CutPost.panic fun _ _ _ h => h
            focus (intro w hSw; (try dsimp only at hSw); go_simp; try with_reducible rfl)
            (try simp only [Act.put, List.setIfInBounds_toArray, List.set_cons_zero, List.set_cons_succ])
            refine wpAnyH_take (i := 6) (oi := ?_) (v := ?_) (by simp only [List.getElem?_toArray, List.getElem?_cons_succ, List.getElem?_cons_zero]; rfl) (by kernel_rfl) (by kernel_rfl) (by kernel_rfl) ?_ (Or.inl ⟨by rfl, ?_⟩) hHeld ?_
            rotate_left 1
            focus exact CutPost.panic fun _ _ _ h => h
            focus (intro w hSw; (try dsimp only at hSw); go_simp; try with_reducible rfl)
            (try simp only [Act.put, List.setIfInBounds_toArray, List.set_cons_zero, List.set_cons_succ])
            refine wpAnyH_take (i := 7) (oi := ?_) (v := ?_) (by simp only [List.getElem?_toArray, List.getElem?_cons_succ, List.getElem?_cons_zero]; rfl) (by kernel_rfl) (by kernel_rfl) (by kernel_rfl) ?_ (Or.inl ⟨by rfl, ?_⟩) hHeld ?_
            rotate_left 1
            focus exact CutPost.panic fun _ _ _ h => h
            focus (intro w hSw; (try dsimp only at hSw); go_simp; try with_reducible rfl)
            (try simp only [Act.put, List.setIfInBounds_toArray, List.set_cons_zero, List.set_cons_succ])
            refine wpAnyH_take (i := 8) (oi := ?_) (v := ?_) (by simp only [List.getElem?_toArray, List.getElem?_cons_succ, List.getElem?_cons_zero]; rfl) (by kernel_rfl) (by kernel_rfl) (by kernel_rfl) ?_ (Or.inl ⟨by rfl, ?_⟩) hHeld ?_
            rotate_left 1
            focus exact CutPost.panic fun _ _ _ h => h
            focus (intro w hSw; (try dsimp only at hSw); go_simp; try with_reducible rfl)
            (try simp only [Act.put, List.setIfInBounds_toArray, List.set_cons_zero, List.set_cons_succ])
            refine wpAnyH_take (i := 9) (oi := ?_) (v := ?_) (by simp only [List.getElem?_toArray, List.getElem?_cons_succ, List.getElem?_cons_zero]; rfl) (by kernel_rfl) (by kernel_rfl) (by kernel_rfl) ?_ (Or.inl ⟨by rfl, ?_⟩) hHeld ?_
            rotate_left 1
            focus exact CutPost.panic fun _ _ _ h => h
            focus (intro w hSw; (try dsimp only at hSw); go_simp; try with_reducible rfl)
            (try simp only [Act.put, List.setIfInBounds_toArray, List.set_cons_zero, List.set_cons_succ])
            refine wpAnyH_take (i := 10) (oi := ?_) (v := ?_) (by simp only [List.getElem?_toArray, List.getElem?_cons_succ, List.getElem?_cons_zero]; rfl) (by kernel_rfl) (by kernel_rfl) (by kernel_rfl) ?_ (Or.inl ⟨by rfl, ?_⟩) hHeld ?_
            rotate_left 1
            focus exact CutPost.panic fun _ _ _ h => h
            focus (intro w hSw; (try dsimp only at hSw); go_simp; try with_reducible rfl)
            (try simp only [Act.put, List.setIfInBounds_toArray, List.set_cons_zero, List.set_cons_succ])
            refine wpAnyH_take (i := 11) (oi := ?_) (v := ?_) (by simp only [List.getElem?_toArray, List.getElem?_cons_succ, List.getElem?_cons_zero]; rfl) (by kernel_rfl) (by kernel_rfl) (by kernel_rfl) ?_ (Or.inl ⟨by rfl, ?_⟩) hHeld ?_
            rotate_left 1
            focus exact CutPost.panic fun _ _ _ h => h
            focus (intro w hSw; (try dsimp only at hSw); go_simp; try with_reducible rfl)
            (try simp only [Act.put, List.setIfInBounds_toArray, List.set_cons_zero, List.set_cons_succ])
            refine wpAnyH_take (i := 12) (oi := ?_) (v := ?_) (by simp only [List.getElem?_toArray, List.getElem?_cons_succ, List.getElem?_cons_zero]; rfl) (by kernel_rfl) (by kernel_rfl) (by kernel_rfl) ?_ (Or.inl ⟨by rfl, ?_⟩) hHeld ?_
            rotate_left 1
            focus exact CutPost.panic fun _ _ _ h => h
            focus (intro w hSw; (try dsimp only at hSw); go_simp; try with_reducible rfl)
            (try simp only [Act.put, List.setIfInBounds_toArray, List.set_cons_zero, List.set_cons_succ])
            refine wpAnyH_take (i := 13) (oi := ?_) (v := ?_) (by simp only [List.getElem?_toArray, List.getElem?_cons_succ, List.getElem?_cons_zero]; rfl) (by kernel_rfl) (by kernel_rfl) (by kernel_rfl) ?_ (Or.inl ⟨by rfl, ?_⟩) hHeld ?_
            rotate_left 1
            focus exact CutPost.panic fun _ _ _ h => h
            focus (intro w hSw; (try dsimp only at hSw); go_simp; try with_reducible rfl)
            (try simp only [Act.put, List.setIfInBounds_toArray, List.set_cons_zero, List.set_cons_succ])
            refine wpAnyH_take (i := 14) (oi := ?_) (v := ?_) (by simp only [List.getElem?_toArray, List.getElem?_cons_succ, List.getElem?_cons_zero]; rfl) (by kernel_rfl) (by kernel_rfl) (by kernel_rfl) ?_ (Or.inl ⟨by rfl, ?_⟩) hHeld ?_
            rotate_left 1
            focus exact CutPost.panic fun _ _ _ h => h
            focus (intro w hSw; (try dsimp only at hSw); go_simp; try with_reducible rfl)
            (try simp only [Act.put, List.setIfInBounds_toArray, List.set_cons_zero, List.set_cons_succ])
            refine wpAnyH_take (i := 15) (oi := ?_) (v := ?_) (by simp only [List.getElem?_toArray, List.getElem?_cons_succ, List.getElem?_cons_zero]; rfl) (by kernel_rfl) (by kernel_rfl) (by kernel_rfl) ?_ (Or.inl ⟨by rfl, ?_⟩) hHeld ?_
            rotate_left 1
            focus exact CutPost.panic fun _ _ _ h => h
            focus (intro w hSw; (try dsimp only at hSw); go_simp; try with_reducible rfl)
            (try simp only [Act.put, List.setIfInBounds_toArray, List.set_cons_zero, List.set_cons_succ])
            refine wpAnyH_take (i := 16) (oi := ?_) (v := ?_) (by simp only [List.getElem?_toArray, List.getElem?_cons_succ, List.getElem?_cons_zero]; rfl) (by kernel_rfl) (by kernel_rfl) (by kernel_rfl) ?_ (Or.inl ⟨by rfl, ?_⟩) hHeld ?_
            rotate_left 1
            focus exact CutPost.panic fun _ _ _ h => h
            focus (intro w hSw; (try dsimp only at hSw); go_simp; try with_reducible rfl)
            (try simp only [Act.put, List.setIfInBounds_toArray, List.set_cons_zero, List.set_cons_succ])
            refine wpAnyH_take (i := 17) (oi := ?_) (v := ?_) (by simp only [List.getElem?_toArray, List.getElem?_cons_succ, List.getElem?_cons_zero]; rfl) (by kernel_rfl) (by kernel_rfl) (by kernel_rfl) ?_ (Or.inl ⟨by rfl, ?_⟩) hHeld ?_
            rotate_left 1
            focus exact CutPost.panic fun _ _ _ h => h
            focus (intro w hSw; (try dsimp only at hSw); go_simp; try with_reducible rfl)
            (try simp only [Act.put, List.setIfInBounds_toArray, List.set_cons_zero, List.set_cons_succ])
            refine wpAnyH_take (i := 18) (oi := ?_) (v := ?_) (by simp only [List.getElem?_toArray, List.getElem?_cons_succ, List.getElem?_cons_zero]; rfl) (by kernel_rfl) (by kernel_rfl) (by kernel_rfl) ?_ (Or.inl ⟨by rfl, ?_⟩) hHeld ?_
            rotate_left 1
            focus exact CutPost.panic fun _ _ _ h => h
            focus (intro w hSw; (try dsimp only at hSw); go_simp; try with_reducible rfl)
            (try simp only [Act.put, List.setIfInBounds_toArray, List.set_cons_zero, List.set_cons_succ])
            refine wpAnyH_take (i := 22) (oi := ?_) (v := ?_) (by simp only [List.getElem?_toArray, List.getElem?_cons_succ, List.getElem?_cons_zero]; rfl) (by kernel_rfl) (by kernel_rfl) (by kernel_rfl) ?_ (Or.inl ⟨by rfl, ?_⟩) hHeld ?_
            rotate_left 1
            focus exact CutPost.panic fun _ _ _ h => h
            focus (intro w hSw; (try dsimp only at hSw); go_simp; try with_reducible rfl)
            (try simp only [Act.put, List.setIfInBounds_toArray, List.set_cons_zero, List.set_cons_succ])
            refine wpAnyH_take (i := 23) (oi := ?_) (v := ?_) (by simp only [List.getElem?_toArray, List.getElem?_cons_succ, List.getElem?_cons_zero]; rfl) (by kernel_rfl) (by kernel_rfl) (by kernel_rfl) ?_ (Or.inl ⟨by rfl, ?_⟩) hHeld ?_
            rotate_left 1
            focus exact CutPost.panic fun _ _ _ h => h
            focus (intro w hSw; (try dsimp only at hSw); go_simp; try with_reducible rfl)
            (try simp only [Act.put, List.setIfInBounds_toArray, List.set_cons_zero, List.set_cons_succ])
            refine wpAnyH_take (i := 24) (oi := ?_) (v := ?_) (by simp only [List.getElem?_toArray, List.getElem?_cons_succ, List.getElem?_cons_zero]; rfl) (by kernel_rfl) (by kernel_rfl) (by kernel_rfl) ?_ (Or.inl ⟨by rfl, ?_⟩) hHeld ?_
            rotate_left 1
            focus exact CutPost.panic fun _ _ _ h => h
            focus (intro w hSw; (try dsimp only at hSw); go_simp; try with_reducible rfl)
            (try simp only [Act.put, List.setIfInBounds_toArray, List.set_cons_zero, List.set_cons_succ])
            refine wpAnyH_take (i := 25) (oi := ?_) (v := ?_) (by simp only [List.getElem?_toArray, List.getElem?_cons_succ, List.getElem?_cons_zero]; rfl) (by kernel_rfl) (by kernel_rfl) (by kernel_rfl) ?_ (Or.inl ⟨by rfl, ?_⟩) hHeld ?_
            rotate_left 1
            focus exact CutPost.panic fun _ _ _ h => h
            focus (intro w hSw; (try dsimp only at hSw); go_simp; try with_reducible rfl)
            (try simp only [Act.put, List.setIfInBounds_toArray, List.set_cons_zero, List.set_cons_succ])
            refine wpAnyH_take (i := 26) (oi := ?_) (v := ?_) (by simp only [List.getElem?_toArray, List.getElem?_cons_succ, List.getElem?_cons_zero]; rfl) (by kernel_rfl) (by kernel_rfl) (by kernel_rfl) ?_ (Or.inl ⟨by rfl, ?_⟩) hHeld ?_
            rotate_left 1
            focus exact CutPost.panic fun _ _ _ h => h
            focus (intro w hSw; (try dsimp only at hSw); go_simp; try with_reducible rfl)
            (try simp only [Act.put, List.setIfInBounds_toArray, List.set_cons_zero, List.set_cons_succ])
            refine wpAnyH_ready (rs := [19]) (by kernel_rfl) (by simp) ?_
            refine AllReadyH.cons (o := ?_) (by simp only [List.getElem?_toArray, List.getElem?_cons_succ, List.getElem?_cons_zero]; rfl) (fun K hK => ?_) AllReadyH.nil
            go_simp
            (go_at_call 29; refine (specFind (some ⟨gi, offi, none⟩) nc cc cat part V.drew ((hrc.below BV.out).drewN 1) (by omega)).mono ?_; rw [HQV.out]; rintro e w11 ⟨rfl, b11⟩)
            go_wp2_with fail
            have b11 : Below V.heap.size V w11 := (Below.refl _ _).drew.trans b11
            have C11 := own_below CV b11
            have S11 : w11.cell? ⟨go, offo + j, none⟩ = some (.int .i64 (p : Int)) ∧ w11.cell? ⟨gl, offl + t * 6 + 1, none⟩ = some (.string part) ∧ w11.cell? ⟨gl, offl + t * 6 + 2, none⟩ = some (.int .i64 qty) ∧ w11.cell? ⟨gc, p, none⟩ = some (.int .i64 (lvAt cs' p)) ∧ w11.cell? ⟨gc, qv, none⟩ = some (.int .i64 (lvAt cs' qv)) :=
              ⟨cell_keep b11 coz, cell_keep b11 co11, cell_keep b11 co12, cell_keep b11 dp, cell_keep b11 dq⟩
            refine hK.out _ _ (S11) (fun hHeld => ?_)
            clear hK K
            (try simp only [Act.put, List.setIfInBounds_toArray, List.set_cons_zero, List.set_cons_succ])
            refine wpAnyH_take (i := 20) (oi := ?_) (v := ?_) (by simp only [List.getElem?_toArray, List.getElem?_cons_succ, List.getElem?_cons_zero]; rfl) (by kernel_rfl) (by kernel_rfl) (by kernel_rfl) ?_ (Or.inl ⟨by rfl, ?_⟩) hHeld ?_
            rotate_left 1
            focus exact CutPost.panic fun _ _ _ h => h
            focus (intro w hSw; (try dsimp only at hSw); go_simp; try with_reducible rfl)
            (try simp only [Act.put, List.setIfInBounds_toArray, List.set_cons_zero, List.set_cons_succ])
            refine wpAnyH_take (i := 21) (oi := ?_) (v := ?_) (by simp only [List.getElem?_toArray, List.getElem?_cons_succ, List.getElem?_cons_zero]; rfl) (by kernel_rfl) (by kernel_rfl) (by kernel_rfl) ?_ (Or.inl ⟨by rfl, ?_⟩) hHeld ?_
            rotate_left 1
            focus exact CutPost.panic fun _ _ _ h => h
            focus (intro w hSw; (try dsimp only at hSw); go_simp; try with_reducible rfl)
            (try simp only [Act.put, List.setIfInBounds_toArray, List.set_cons_zero, List.set_cons_succ])
            refine wpAnyH_ready (rs := [27]) (by kernel_rfl) (by simp) ?_
            refine AllReadyH.cons (o := ?_) (by simp only [List.getElem?_toArray, List.getElem?_cons_succ, List.getElem?_cons_zero]; rfl) (fun K hK => ?_) AllReadyH.nil
            go_simp
            (go_at_call 46; refine (specTimes (lvAt cs' qv) qty w11 (by rw [QF.out]; exact fb) (by omega)).mono ?_; rintro e w12 ⟨rfl, rfl⟩)
            go_wp2_with fail
            refine hK.out _ _ (S11) (fun hHeld => ?_)
            clear hK K
            (try simp only [Act.put, List.setIfInBounds_toArray, List.set_cons_zero, List.set_cons_succ])
            have TO := cTimes_ok (lvAt cs' qv) qty
            unfold cOk at TO
            refine wpAnyH_ready (rs := [28]) (by kernel_rfl) (by simp) ?_
            refine AllReadyH.cons (o := ?_) (by simp only [List.getElem?_toArray, List.getElem?_cons_succ, List.getElem?_cons_zero]; rfl) (fun K hK => ?_) AllReadyH.nil
            go_simp
            (go_at_call 45; refine (specPlus (lvAt cs' p) (cTimes (lvAt cs' qv) qty) w11 (by omega) (by omega)).mono ?_; rintro e w12 ⟨rfl, rfl⟩)
            go_wp2_with fail
            refine hK.out _ _ (S11) (fun hHeld => ?_)
            clear hK K
            (try simp only [Act.put, List.setIfInBounds_toArray, List.set_cons_zero, List.set_cons_succ])
            obtain ⟨_, ec2, _, dp9, fp9, SP9⟩ := int_own C11 pn
            injection ec2 with ec2; injection ec2 with ec2
            subst ec2
            refine wpAnyH_take (i := 29) (oi := ?_) (v := ?_) (by simp only [List.getElem?_toArray, List.getElem?_cons_succ, List.getElem?_cons_zero]; rfl) (by kernel_rfl) (by kernel_rfl) (by kernel_rfl) ?_ (Or.inl ⟨by rfl, ?_⟩) hHeld ?_
            rotate_left 1
            focus exact CutPost.panic fun _ _ _ h => h
            focus (intro w hSw; (try dsimp only at hSw); go_simp; try with_reducible rfl)
            (try simp only [Act.put, List.setIfInBounds_toArray, List.set_cons_zero, List.set_cons_succ])
            refine wpAnyH_done (by kernel_rfl) ?_ _
            refine CutPost.step (o := ?_) (by simp only [List.getElem?_toArray, List.getElem?_cons_succ, List.getElem?_cons_zero]; rfl) (fun K hK => ?_)
            go_simp
            refine hK _ _ ?_
            clear hK K
            (try simp only [Act.put, List.setIfInBounds_toArray, List.set_cons_zero, List.set_cons_succ])
            have OS := Lib.hid (SP9 (cPlus (lvAt cs' p) (cTimes (lvAt cs' qv) qty)))
            have GN := Lib.hid ((GV.out.trans (grown_of_belowM _ b11)).trans (grown_set w11 ⟨gc, p, none⟩ (.int .i64 (cPlus (lvAt cs' p) (cTimes (lvAt cs' qv) qty)))))
            have CL9 : cs'.length = nc := own_ints C11
            have ZN := Lib.hid (show lvAt (cs'.set p (cPlus (lvAt cs' p) (cTimes (lvAt cs' qv) qty))) p = (l.take (t + 1)).foldl (csLine f par day ch) (priceIn pr par) by
              rw [lvAt_set (by omega), if_pos rfl, HFS.out, QF.out])
            have NN := Lib.hid (show ∀ i, i ≠ p → lvAt (cs'.set p (cPlus (lvAt cs' p) (cTimes (lvAt cs' qv) qty))) i = lvAt cs i from fun i hi => by
              rw [lvAt_set (by omega), if_neg hi, hN.out i hi])
            clear dp9 fp9 SP9 C11 S11 b11 CV GV BV coz co11 co12 dp dq fp SP hHeld TO
            go_wp2_with fail
            go_roundw
            case rel => exact ⟨t + 1, _, by omega, by go_num, OS.out, GN.out, ZN, NN⟩
            case measure => simp [intOf]; omega
        · obtain rfl : n = t := by omega
          have TA : l.take n = l := List.take_of_length_le (by rw [hl.out]; exact Nat.le_refl _)
          have hZ2 := hZ.out
          rw [TA, ← FCO.out] at hZ2
          have RN := Lib.hid (reckoned_more (cs' := cs') hR.out HOP.out (by rw [CA.out]; exact hZ2) hN.out)
          have CN := Lib.hid (show ∀ i, cOk (lvAt cs' i) from fun i => by
            by_cases hip : i = p
            · rw [hip, hZ2]; exact FOK.out code
            · rw [hN.out i hip]; exact hC.out i)
          have GN := Lib.hid (G10.out.trans gz)
          clear TA hZ2 hZ gz
          go_wp2_with fail
          go_roundw
          case rel => exact ⟨j, cs', by omega, by go_num, oz, GN.out, RN, CN⟩
          case measure => simp [intOf]
end Go.Proofs.Ytnhkpdaogclfjaa
