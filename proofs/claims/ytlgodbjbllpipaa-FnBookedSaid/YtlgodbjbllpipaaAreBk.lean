/- Right books: the plain words, and the walks of AreBooks. No condition. -/
import Derived.Test.YtlgodbjbllpipaaShelfA
import Derived.Test.YtlgodbjbllpipaaText
import Derived.Test.YtlgodbjbllpipaaLess
import Derived.Test.YtlgodbjbllpipaaLayA
import Derived.Test.YtlgodbjbllpipaaDocB
import Derived.Laws.Cover1
namespace Go.Proofs.Ytlgodbjbllpipaa
open Go.ChangeShapes Go.WideShapes Go.ChangeAt Go.RowKit

def allAt {α : Type} (l : List α) (p : Nat → α → Bool) : Bool := (List.range l.length).all (fun k => match l[k]? with | some x => p k x | none => true)
theorem allAt_bad {α : Type} {l : List α} {p : Nat → α → Bool} {k : Nat} {x : α} (hx : l[k]? = some x) (h : p k x = false) : allAt l p = false := by
  have hk := (List.getElem?_eq_some_iff.1 hx).1
  rw [allAt, List.all_eq_false]; exact ⟨k, List.mem_range.2 hk, by simp [hx, h]⟩
theorem allAt_good {α : Type} {l : List α} {p : Nat → α → Bool} (h : ∀ (j : Nat) (x : α), l[j]? = some x → p j x = true) : allAt l p = true := by
  rw [allAt, List.all_eq_true]; intro j hj
  have hj' := List.mem_range.1 hj
  have hx : l[j]? = some l[j] := List.getElem?_eq_getElem hj'
  simp only [hx]
  exact h j _ hx
theorem allAt_true {α : Type} {l : List α} {p : Nat → α → Bool} (h : allAt l p = true) {j : Nat} {x : α} (hx : l[j]? = some x) : p j x = true := by
  simp only [allAt, List.all_eq_true, List.mem_range] at h
  have := h j (List.getElem?_eq_some_iff.1 hx).1
  simpa [hx] using this
def shOrd (l : List Shf) (k : Nat) (s : ByteArray) : Bool := decide (k = 0) || (match l[k-1]? with | some y => txtLess y.item s | none => true)
theorem shOrd_zero (l : List Shf) (s : ByteArray) : shOrd l 0 s = true := by simp [shOrd]
theorem shOrd_at {l : List Shf} {k : Nat} {s : ByteArray} {y : Shf} (hk : 0 < k) (h : l[k-1]? = some y) : shOrd l k s = txtLess y.item s := by
  have : decide (k = 0) = false := by simp; omega
  simp [shOrd, h, this]
def idsOk (l : List Int) : Bool := l.all (fun i => inB i 1 9999)
theorem idsOk_bad {l : List Int} {k : Nat} {x : Int} (hx : l[k]? = some x) (h : inB x 1 9999 = false) : idsOk l = false := by
  rw [idsOk, List.all_eq_false]; exact ⟨x, List.mem_of_getElem? hx, by simp [h]⟩
theorem idsOk_good {l : List Int} (h : ∀ (j : Nat) (x : Int), l[j]? = some x → inB x 1 9999 = true) : idsOk l = true := by
  rw [idsOk, List.all_eq_true]; intro x hx
  obtain ⟨j, hj, rfl⟩ := List.getElem_of_mem hx
  exact h j _ (List.getElem?_eq_getElem hj)
def shGood (l : List Shf) (k : Nat) (x : Shf) : Bool := isCode x.item && (shOrd l k x.item && (areLayers x.lays && (decide (x.ids.length = x.lays.length) && idsOk x.ids)))
def areBk (ss : List Shf) (k : Int) (ds : List Doc) : Bool := allAt ss (shGood ss) && (decide (ss.length ≤ 12) && (inB k 0 1000000000 && areDocs ds))
def shsSmall (l : List Shf) : Prop := ∀ s ∈ l, s.item.size ≤ 1048600 ∧ s.ids.length ≤ 1048600 ∧ s.lays.length ≤ 1048600
theorem shs_are {l : List Shf} (h : ∀ s ∈ l, s.item.size ≤ 1048576 ∧ s.ids.length ≤ 1048576 ∧ s.lays.length ≤ 1048576) : shsSmall l := fun s hs => by have := h s hs; omega
theorem areBk_bad {ss : List Shf} {k : Int} {ds : List Doc} {j : Nat} {x : Shf} (hx : ss[j]? = some x) (h : shGood ss j x = false) : areBk ss k ds = false := by
  simp [areBk, allAt_bad hx h]

set_option maxRecDepth 100000 in
set_option maxHeartbeats 8000000 in
theorem implAreBooks (sA : Option Addr) (sn sc : Nat) (k : Int) (dA : Option Addr) (dn dc : Nat) (ss : List Shf) (ds : List Doc) (w : World) (hr : ShelvesR w sA sn ss) (hd : DocsR w dA dn ds) (hn : sn ≤ 1048600) (hm : dn ≤ 1048600) (hss : shsSmall ss) (hds : docsSmall ds) :
    Calls Try.prog 16 #[.agg #[.slice sA sn sc, .int .i64 k, .slice dA dn dc]] w fun e w' => e = .returned (.bool (areBk ss k ds)) ∧ Below w.heap.size w w' := by
  have hl := Lib.hid hr.len
  have SS := Lib.hid hss; have DS := Lib.hid hds
  clear hss hds
  have b0 := Lib.hid (below_box w (Obj.cells #[.slice sA sn sc, .int .i64 k, .slice dA dn dc] 31))
  have X := Lib.hid (blk_new1 w (Obj.cells #[.slice sA sn sc, .int .i64 k, .slice dA dn dc] 31))
  have hr := hr.below b0.out; have hd := hd.below b0.out
  go_enter Try.func16, Try.ntmps16
  go_wp2_with fail
  generalize hwo : w.alloc (Obj.cells #[.slice sA sn sc, .int .i64 k, .slice dA dn dc] 31) = wo at *
  clear hwo
  go_loopw [10] (fun i wr => ∃ j : Nat, j ≤ sn ∧ i = .int .i64 j ∧ Below wo.heap.size wo wr ∧ Hid (∀ (i : Nat) (x : Shf), i < j → ss[i]? = some x → shGood ss i x = true)) (fun i _ => sn - (intOf i).toNat)
  case atStart => exact ⟨0, Nat.zero_le _, rfl, Below.refl _ _, fun _ _ h => absurd h (Nat.not_lt_zero _)⟩
  case round =>
    obtain ⟨j, hj, rfl, hb, hgood⟩ := hrel
    obtain ⟨wu, hwu⟩ : ∃ x : World, x = wr := ⟨_, rfl⟩
    subst hwu
    have hz := hb.size
    have x0 := blk_at (blk_keep hb X.out) (j := 0) rfl
    by_cases hlt : j < sn
    · obtain ⟨g, off, rfl, ⟨item, ids, lays⟩, iA, iN, iC, lA, lN, lC, hx, c0, c1, c2, hi, hlr⟩ := (hr.below hb).shAt hlt
      obtain ⟨s1, s2, s3⟩ := SS.out _ (List.mem_of_getElem? hx)
      simp only at c0 c1 c2 hi hlr s1 s2 s3
      have si := Lib.hid hi.ints; have sl := Lib.hid hlr.lay
      have n1 : iN ≤ 1048600 := by rw [← si.out]; exact s2
      have n2 : lN ≤ 1000000000 := by rw [← sl.out]; omega
      have s0 : item.size ≤ 9223372036854775807 := by omega
      clear s1 s2 s3
      have HX := Lib.hid hx; clear hx
      have i1 : (0 : Int) ≤ j := by omega
      have i2 : (j : Int) < sn := by omega
      have bu := Lib.hid (hb.alloc hb.size (Obj.cells #[.string item, .slice iA iN iC, .slice lA lN lC] 59))
      have XX := Lib.hid (blk_new1 wu (Obj.cells #[.string item, .slice iA iN iC, .slice lA lN lC] 59))
      have a0 := cell_wext (blk_at XX.out (j := 0) rfl); have a1 := cell_wext (blk_at XX.out (j := 1) rfl); have a2 := cell_wext (blk_at XX.out (j := 2) rfl)
      have xa := cell_wext (cell_alloc x0 (Obj.cells #[.string item, .slice iA iN iC, .slice lA lN lC] 59))
      have hi := hi.alloc (Obj.cells #[.string item, .slice iA iN iC, .slice lA lN lC] 59); have hlr := hlr.alloc (Obj.cells #[.string item, .slice iA iN iC, .slice lA lN lC] 59)
      have step : shGood ss j ⟨item, ids, lays⟩ = true → ∀ (i : Nat) (x : Shf), i < j + 1 → ss[i]? = some x → shGood ss i x = true := fun h i y hi hy => by
        rcases Nat.lt_succ_iff_lt_or_eq.1 hi with h' | rfl
        · exact hgood.out i y h' hy
        · rw [HX.out] at hy; have hy := Option.some.inj hy; rw [← hy]; exact h
      have ST := Lib.hid step; clear step
      cases h1 : isCode item
      ·
        have BAD := Lib.hid (areBk_bad (k := k) (ds := ds) HX.out (show shGood ss j ⟨item, ids, lays⟩ = false by simp [shGood, h1]))
        go_wp2_with fail
        refine wp_region_ext (by kernel_rfl) (by kernel_rfl) ?_
        repeat (go_big_quiet_step (first | (go_at_call 45; first | exact ext_quiet (hC1 _) | exact ext_quiet (implIsCode item _ s0)) | (go_at_call 46; first | exact ext_call (hL1 h3 _ (hlr.wext _)) | exact ext_call (implAreLayers _ _ _ lays _ (hlr.wext _) n2))))
        refine wpQuiet_nil ?_
        intro _ hw'; obtain ⟨nq, hw''⟩ := hw'; subst hw''
        have b2 := below_app bu.out (below_wext _ nq) bu.out.size
        go_wp2_with fail
        go_ret
        exact ⟨ret_bool BAD.out.symm, below_app b0.out b2 b0.out.size⟩
      ·
        have HC := Lib.hid h1
        have hC1 : ∀ w, Calls Try.prog 45 #[.string item] w fun e w' => e = .returned (.bool true) ∧ w = w' := fun w => by have q := implIsCode item w s0; rw [h1] at q; exact q
        have hL1 : areLayers lays = true → ∀ w, RS w 3 lA lN (layCells lays) → Calls Try.prog 46 #[.slice lA lN lC] w fun e w' => e = .returned (.bool true) ∧ Below w.heap.size w w' := fun h w hr => by have q := implAreLayers lA lN lC lays w hr n2; rw [h] at q; exact q
        by_cases hk0 : 0 < j
        ·
          obtain ⟨g', off', he', ⟨item', ids', lays'⟩, iA', iN', iC', lA', lN', lC', hx', p0, p1, p2, _, _⟩ := (hr.below hb).shAt (show j - 1 < sn by omega)
          have he' := Option.some.inj he'
          injection he' with e1 e2
          subst e1 e2
          simp only at p0
          clear p1 p2
          have d0 := cell_wext (cell_alloc p0 (Obj.cells #[.string item, .slice iA iN iC, .slice lA lN lC] 59))
          have RI := Lib.hid (shOrd_at (s := item) hk0 hx'); clear hx'
          simp only at RI
          have i3 : (0 : Int) ≤ ((j : Int) - 1) := by omega
          have i4 : ((j : Int) - 1) < sn := by omega
          have i5 : ((j : Int) - 1).toNat = j - 1 := by omega
          have i6 : ((j : Int)).toNat = j := by omega
          have i7 : (0 : Int) < j := by omega
          cases h2 : Op.bytesLess item'.toList item.toList
          ·
            have BAD := Lib.hid (areBk_bad (k := k) (ds := ds) HX.out (show shGood ss j ⟨item, ids, lays⟩ = false by simp [shGood, RI.out, txtLess, h2]))
            go_wp2_with fail
            refine wp_region_ext (by kernel_rfl) (by kernel_rfl) ?_
            repeat (go_big_quiet_step (first | (go_at_call 45; first | exact ext_quiet (hC1 _) | exact ext_quiet (implIsCode item _ s0)) | (go_at_call 46; first | exact ext_call (hL1 h3 _ (hlr.wext _)) | exact ext_call (implAreLayers _ _ _ lays _ (hlr.wext _) n2))))
            refine wpQuiet_nil ?_
            intro _ hw'; obtain ⟨nq, hw''⟩ := hw'; subst hw''
            have b2 := below_app bu.out (below_wext _ nq) bu.out.size
            go_wp2_with fail
            go_ret
            exact ⟨ret_bool BAD.out.symm, below_app b0.out b2 b0.out.size⟩
          ·
            have HO := Lib.hid (show shOrd ss j item = true by rw [RI.out, txtLess, h2])
            cases h3 : areLayers lays
            ·
              have BAD := Lib.hid (areBk_bad (k := k) (ds := ds) HX.out (show shGood ss j ⟨item, ids, lays⟩ = false by simp [shGood, h3]))
              go_wp2_with fail
              refine wp_region_ext (by kernel_rfl) (by kernel_rfl) ?_
              repeat (go_big_quiet_step (first | (go_at_call 45; first | exact ext_quiet (hC1 _) | exact ext_quiet (implIsCode item _ s0)) | (go_at_call 46; first | exact ext_call (hL1 h3 _ (hlr.wext _)) | exact ext_call (implAreLayers _ _ _ lays _ (hlr.wext _) n2))))
              refine wpQuiet_nil ?_
              intro _ hw'; obtain ⟨nq, hw''⟩ := hw'; subst hw''
              have b2 := below_app bu.out (below_wext _ nq) bu.out.size
              go_wp2_with fail
              go_ret
              exact ⟨ret_bool BAD.out.symm, below_app b0.out b2 b0.out.size⟩
            ·
              by_cases h4 : iN = lN
              ·
                subst h4
                have EL := Lib.hid (show ids.length = lays.length by rw [si.out, sl.out])
                go_wp2_with fail
                refine wp_region_ext (by kernel_rfl) (by kernel_rfl) ?_
                repeat (go_big_quiet_step (first | (go_at_call 45; first | exact ext_quiet (hC1 _) | exact ext_quiet (implIsCode item _ s0)) | (go_at_call 46; first | exact ext_call (hL1 h3 _ (hlr.wext _)) | exact ext_call (implAreLayers _ _ _ lays _ (hlr.wext _) n2))))
                refine wpQuiet_nil ?_
                intro _ hw'; obtain ⟨nq, hw''⟩ := hw'; subst hw''
                have b2 := Lib.hid (below_wext (wu.alloc (Obj.cells #[.string item, .slice iA iN iC, .slice lA iN lC] 59)) nq)
                have XY := Lib.hid (blk_keep b2.out XX.out)
                have hi2 := hi.below b2.out
                have b3 := Lib.hid (below_app bu.out b2.out bu.out.size)
                clear a0 a1 a2 xa x0
                have y1 := blk_at XY.out (j := 1) rfl
                go_wp2_with fail
                generalize hwp : wext (wu.alloc (Obj.cells #[.string item, .slice iA iN iC, .slice lA iN lC] 59)) nq = wp at *
                clear hwp b2
                go_loopw [53] (fun i wr => ∃ m : Nat, m ≤ iN ∧ i = .int .i64 m ∧ Below wp.heap.size wp wr ∧ Hid (∀ (i : Nat) (x : Int), i < m → ids[i]? = some x → inB x 1 9999 = true)) (fun i _ => iN - (intOf i).toNat)
                case atStart => exact ⟨0, Nat.zero_le _, rfl, Below.refl _ _, fun _ _ h => absurd h (Nat.not_lt_zero _)⟩
                case round =>
                  obtain ⟨m, hm', rfl, hp, hall⟩ := hrel
                  have y1 := blk_at (blk_keep hp XY.out) (j := 1) rfl
                  by_cases hlt2 : m < iN
                  · obtain ⟨g2, off2, rfl, x, hx2, hc⟩ := (hi2.below hp).intAt hlt2
                    have HX2 := Lib.hid hx2; clear hx2
                    have m1 : (0 : Int) ≤ m := by omega
                    have m2 : (m : Int) < iN := by omega
                    cases h5 : inB x 1 9999
                    · have BAD := Lib.hid (areBk_bad (k := k) (ds := ds) HX.out (show shGood ss j ⟨item, ids, lays⟩ = false by simp [shGood, idsOk_bad HX2.out h5]))
                      go_wp2_with fail
                      refine (impl_in _ _ _ _).mono ?_; rw [h5]; rintro e w' ⟨rfl, rfl⟩
                      go_wp2_with fail
                      go_ret
                      exact ⟨ret_bool BAD.out.symm, below_app b0.out (below_app b3.out hp b3.out.size) b0.out.size⟩
                    · go_wp2_with fail
                      refine (impl_in _ _ _ _).mono ?_; rw [h5]; rintro e w' ⟨rfl, rfl⟩
                      go_wp2_with fail
                      go_roundw
                      case rel =>
                        refine ⟨m + 1, by omega, by go_num, hp, fun i y hi hy => ?_⟩
                        rcases Nat.lt_succ_iff_lt_or_eq.1 hi with h' | rfl
                        · exact hall.out i y h' hy
                        · rw [HX2.out] at hy; have hy := Option.some.inj hy; rw [← hy]; exact h5
                      case measure => simp [intOf]; omega
                  · obtain rfl : iN = m := by omega
                    have IDO := Lib.hid (idsOk_good fun i y hy => hall.out i y (by rw [← si.out]; exact (List.getElem?_eq_some_iff.1 hy).1) hy)
                    have GOOD := Lib.hid (show shGood ss j ⟨item, ids, lays⟩ = true by simp [shGood, HC.out, HO.out, h3, EL.out, IDO.out])
                    clear hall
                    go_wp2_with fail
                    go_roundw
                    case rel => exact ⟨j + 1, by omega, by go_num, below_app b3.out hp b3.out.size, ST.out GOOD.out⟩
                    case measure => simp [intOf]; omega
              ·
                have h4' : ¬ (iN : Int) = lN := by omega
                have EL := Lib.hid (show ¬ ids.length = lays.length by rw [si.out, sl.out]; exact h4)
                have h4d : decide (iN = lN) = false := decide_eq_false h4
                have h4f : ((iN : Int) != (lN : Int)) = true := bne_iff_ne.2 h4'
                have BAD := Lib.hid (areBk_bad (k := k) (ds := ds) HX.out (show shGood ss j ⟨item, ids, lays⟩ = false by simp [shGood, EL.out]))
                go_wp2_with fail
                refine wp_region_ext (by kernel_rfl) (by kernel_rfl) ?_
                repeat (go_big_quiet_step (first | (go_at_call 45; first | exact ext_quiet (hC1 _) | exact ext_quiet (implIsCode item _ s0)) | (go_at_call 46; first | exact ext_call (hL1 h3 _ (hlr.wext _)) | exact ext_call (implAreLayers _ _ _ lays _ (hlr.wext _) n2))))
                refine wpQuiet_nil ?_
                intro _ hw'; obtain ⟨nq, hw''⟩ := hw'; subst hw''
                have b2 := below_app bu.out (below_wext _ nq) bu.out.size
                go_wp2_with fail
                go_ret
                exact ⟨ret_bool BAD.out.symm, below_app b0.out b2 b0.out.size⟩
        ·
          have KZ := Lib.hid (show j = 0 by omega)
          have i7 : ¬ (0 : Int) < j := by omega
          have HO := Lib.hid (show shOrd ss j item = true by rw [KZ.out]; exact shOrd_zero _ _)
          cases h3 : areLayers lays
          ·
            have BAD := Lib.hid (areBk_bad (k := k) (ds := ds) HX.out (show shGood ss j ⟨item, ids, lays⟩ = false by simp [shGood, h3]))
            go_wp2_with fail
            refine wp_region_ext (by kernel_rfl) (by kernel_rfl) ?_
            repeat (go_big_quiet_step (first | (go_at_call 45; first | exact ext_quiet (hC1 _) | exact ext_quiet (implIsCode item _ s0)) | (go_at_call 46; first | exact ext_call (hL1 h3 _ (hlr.wext _)) | exact ext_call (implAreLayers _ _ _ lays _ (hlr.wext _) n2))))
            refine wpQuiet_nil ?_
            intro _ hw'; obtain ⟨nq, hw''⟩ := hw'; subst hw''
            have b2 := below_app bu.out (below_wext _ nq) bu.out.size
            go_wp2_with fail
            go_ret
            exact ⟨ret_bool BAD.out.symm, below_app b0.out b2 b0.out.size⟩
          ·
            by_cases h4 : iN = lN
            ·
              subst h4
              have EL := Lib.hid (show ids.length = lays.length by rw [si.out, sl.out])
              go_wp2_with fail
              refine wp_region_ext (by kernel_rfl) (by kernel_rfl) ?_
              repeat (go_big_quiet_step (first | (go_at_call 45; first | exact ext_quiet (hC1 _) | exact ext_quiet (implIsCode item _ s0)) | (go_at_call 46; first | exact ext_call (hL1 h3 _ (hlr.wext _)) | exact ext_call (implAreLayers _ _ _ lays _ (hlr.wext _) n2))))
              refine wpQuiet_nil ?_
              intro _ hw'; obtain ⟨nq, hw''⟩ := hw'; subst hw''
              have b2 := Lib.hid (below_wext (wu.alloc (Obj.cells #[.string item, .slice iA iN iC, .slice lA iN lC] 59)) nq)
              have XY := Lib.hid (blk_keep b2.out XX.out)
              have hi2 := hi.below b2.out
              have b3 := Lib.hid (below_app bu.out b2.out bu.out.size)
              clear a0 a1 a2 xa x0
              have y1 := blk_at XY.out (j := 1) rfl
              go_wp2_with fail
              generalize hwp : wext (wu.alloc (Obj.cells #[.string item, .slice iA iN iC, .slice lA iN lC] 59)) nq = wp at *
              clear hwp b2
              go_loopw [53] (fun i wr => ∃ m : Nat, m ≤ iN ∧ i = .int .i64 m ∧ Below wp.heap.size wp wr ∧ Hid (∀ (i : Nat) (x : Int), i < m → ids[i]? = some x → inB x 1 9999 = true)) (fun i _ => iN - (intOf i).toNat)
              case atStart => exact ⟨0, Nat.zero_le _, rfl, Below.refl _ _, fun _ _ h => absurd h (Nat.not_lt_zero _)⟩
              case round =>
                obtain ⟨m, hm', rfl, hp, hall⟩ := hrel
                have y1 := blk_at (blk_keep hp XY.out) (j := 1) rfl
                by_cases hlt2 : m < iN
                · obtain ⟨g2, off2, rfl, x, hx2, hc⟩ := (hi2.below hp).intAt hlt2
                  have HX2 := Lib.hid hx2; clear hx2
                  have m1 : (0 : Int) ≤ m := by omega
                  have m2 : (m : Int) < iN := by omega
                  cases h5 : inB x 1 9999
                  · have BAD := Lib.hid (areBk_bad (k := k) (ds := ds) HX.out (show shGood ss j ⟨item, ids, lays⟩ = false by simp [shGood, idsOk_bad HX2.out h5]))
                    go_wp2_with fail
                    refine (impl_in _ _ _ _).mono ?_; rw [h5]; rintro e w' ⟨rfl, rfl⟩
                    go_wp2_with fail
                    go_ret
                    exact ⟨ret_bool BAD.out.symm, below_app b0.out (below_app b3.out hp b3.out.size) b0.out.size⟩
                  · go_wp2_with fail
                    refine (impl_in _ _ _ _).mono ?_; rw [h5]; rintro e w' ⟨rfl, rfl⟩
                    go_wp2_with fail
                    go_roundw
                    case rel =>
                      refine ⟨m + 1, by omega, by go_num, hp, fun i y hi hy => ?_⟩
                      rcases Nat.lt_succ_iff_lt_or_eq.1 hi with h' | rfl
                      · exact hall.out i y h' hy
                      · rw [HX2.out] at hy; have hy := Option.some.inj hy; rw [← hy]; exact h5
                    case measure => simp [intOf]; omega
                · obtain rfl : iN = m := by omega
                  have IDO := Lib.hid (idsOk_good fun i y hy => hall.out i y (by rw [← si.out]; exact (List.getElem?_eq_some_iff.1 hy).1) hy)
                  have GOOD := Lib.hid (show shGood ss j ⟨item, ids, lays⟩ = true by simp [shGood, HC.out, HO.out, h3, EL.out, IDO.out])
                  clear hall
                  go_wp2_with fail
                  go_roundw
                  case rel => exact ⟨j + 1, by omega, by go_num, below_app b3.out hp b3.out.size, ST.out GOOD.out⟩
                  case measure => simp [intOf]; omega
            ·
              have h4' : ¬ (iN : Int) = lN := by omega
              have EL := Lib.hid (show ¬ ids.length = lays.length by rw [si.out, sl.out]; exact h4)
              have h4d : decide (iN = lN) = false := decide_eq_false h4
              have h4f : ((iN : Int) != (lN : Int)) = true := bne_iff_ne.2 h4'
              have BAD := Lib.hid (areBk_bad (k := k) (ds := ds) HX.out (show shGood ss j ⟨item, ids, lays⟩ = false by simp [shGood, EL.out]))
              go_wp2_with fail
              refine wp_region_ext (by kernel_rfl) (by kernel_rfl) ?_
              repeat (go_big_quiet_step (first | (go_at_call 45; first | exact ext_quiet (hC1 _) | exact ext_quiet (implIsCode item _ s0)) | (go_at_call 46; first | exact ext_call (hL1 h3 _ (hlr.wext _)) | exact ext_call (implAreLayers _ _ _ lays _ (hlr.wext _) n2))))
              refine wpQuiet_nil ?_
              intro _ hw'; obtain ⟨nq, hw''⟩ := hw'; subst hw''
              have b2 := below_app bu.out (below_wext _ nq) bu.out.size
              go_wp2_with fail
              go_ret
              exact ⟨ret_bool BAD.out.symm, below_app b0.out b2 b0.out.size⟩
    · obtain rfl : sn = j := by omega
      have AG := Lib.hid (allAt_good (p := shGood ss) fun i x hx => hgood.out i x (by rw [← hl.out]; exact (List.getElem?_eq_some_iff.1 hx).1) hx)
      clear hgood
      have x1 := blk_at (blk_keep hb X.out) (j := 1) rfl; have x2 := blk_at (blk_keep hb X.out) (j := 2) rfl
      have hdb := hd.below hb
      by_cases h1 : sn ≤ 12
      · cases h2 : inB k 0 1000000000
        · have R := Lib.hid (show areBk ss k ds = false by simp [areBk, h2])
          go_wp2_with (first | (go_at_call 47; refine (impl_in _ _ _ _).mono ?_; rw [h2]; rintro e w' ⟨rfl, rfl⟩) | (go_at_call 48; refine (implAreDocs _ _ _ ds _ hdb hm DS.out).mono ?_; rintro e w2 ⟨rfl, hb2⟩))
          go_ret
          exact ⟨ret_bool R.out.symm, below_app b0.out hb b0.out.size⟩
        · have R := Lib.hid (show areBk ss k ds = areDocs ds by simp [areBk, h2, AG.out, hl.out, h1])
          go_wp2_with (go_at_call 47; refine (impl_in _ _ _ _).mono ?_; rw [h2]; rintro e w' ⟨rfl, rfl⟩)
          refine (implAreDocs _ _ _ ds _ hdb hm DS.out).mono ?_; rintro e w2 ⟨rfl, hb2⟩
          have b2 := below_app hb hb2 hb.size
          go_wp2_with fail
          go_ret
          exact ⟨ret_bool R.out.symm, below_app b0.out b2 b0.out.size⟩
      · have R := Lib.hid (show areBk ss k ds = false by simp [areBk, hl.out, h1])
        have h1' : ¬ (sn : Int) ≤ 12 := by omega
        go_wp2_with fail
        go_ret
        exact ⟨ret_bool R.out.symm, below_app b0.out hb b0.out.size⟩
set_option maxRecDepth 100000 in
set_option maxHeartbeats 8000000 in
theorem specAreBooks (sA : Option Addr) (sn sc : Nat) (k : Int) (dA : Option Addr) (dn dc : Nat) (ss : List Shf) (ds : List Doc) (w : World) (hr : ShelvesR w sA sn ss) (hd : DocsR w dA dn ds) (hn : sn ≤ 1048600) (hm : dn ≤ 1048600) (hss : shsSmall ss) (hds : docsSmall ds) :
    Calls Try.prog 15 #[.agg #[.slice sA sn sc, .int .i64 k, .slice dA dn dc]] w fun e w' => e = .returned (.bool (areBk ss k ds)) ∧ Below w.heap.size w w' := by
  have hl := Lib.hid hr.len
  have SS := Lib.hid hss; have DS := Lib.hid hds
  clear hss hds
  have b0 := Lib.hid (below_box w (Obj.cells #[.slice sA sn sc, .int .i64 k, .slice dA dn dc] 31))
  have X := Lib.hid (blk_new1 w (Obj.cells #[.slice sA sn sc, .int .i64 k, .slice dA dn dc] 31))
  have hr := hr.below b0.out; have hd := hd.below b0.out
  go_enter Try.func15, Try.ntmps15
  go_wp2_with fail
  generalize hwo : w.alloc (Obj.cells #[.slice sA sn sc, .int .i64 k, .slice dA dn dc] 31) = wo at *
  clear hwo
  go_loopw [3] (fun i wr => ∃ j : Nat, j ≤ sn ∧ i = .int .i64 j ∧ Below wo.heap.size wo wr ∧ Hid (∀ (i : Nat) (x : Shf), i < j → ss[i]? = some x → shGood ss i x = true)) (fun i _ => sn - (intOf i).toNat)
  case atStart => exact ⟨0, Nat.zero_le _, rfl, Below.refl _ _, fun _ _ h => absurd h (Nat.not_lt_zero _)⟩
  case round =>
    obtain ⟨j, hj, rfl, hb, hgood⟩ := hrel
    obtain ⟨wu, hwu⟩ : ∃ x : World, x = wr := ⟨_, rfl⟩
    subst hwu
    have hz := hb.size
    have x0 := blk_at (blk_keep hb X.out) (j := 0) rfl
    by_cases hlt : j < sn
    · obtain ⟨g, off, rfl, ⟨item, ids, lays⟩, iA, iN, iC, lA, lN, lC, hx, c0, c1, c2, hi, hlr⟩ := (hr.below hb).shAt hlt
      obtain ⟨s1, s2, s3⟩ := SS.out _ (List.mem_of_getElem? hx)
      simp only at c0 c1 c2 hi hlr s1 s2 s3
      have si := Lib.hid hi.ints; have sl := Lib.hid hlr.lay
      have n1 : iN ≤ 1048600 := by rw [← si.out]; exact s2
      have n2 : lN ≤ 1000000000 := by rw [← sl.out]; omega
      have s0 : item.size ≤ 9223372036854775807 := by omega
      clear s1 s2 s3
      have HX := Lib.hid hx; clear hx
      have i1 : (0 : Int) ≤ j := by omega
      have i2 : (j : Int) < sn := by omega
      have bu := Lib.hid (hb.alloc hb.size (Obj.cells #[.string item, .slice iA iN iC, .slice lA lN lC] 59))
      have XX := Lib.hid (blk_new1 wu (Obj.cells #[.string item, .slice iA iN iC, .slice lA lN lC] 59))
      have a0 := cell_wext (blk_at XX.out (j := 0) rfl); have a1 := cell_wext (blk_at XX.out (j := 1) rfl); have a2 := cell_wext (blk_at XX.out (j := 2) rfl)
      have xa := cell_wext (cell_alloc x0 (Obj.cells #[.string item, .slice iA iN iC, .slice lA lN lC] 59))
      have hi := hi.alloc (Obj.cells #[.string item, .slice iA iN iC, .slice lA lN lC] 59); have hlr := hlr.alloc (Obj.cells #[.string item, .slice iA iN iC, .slice lA lN lC] 59)
      have step : shGood ss j ⟨item, ids, lays⟩ = true → ∀ (i : Nat) (x : Shf), i < j + 1 → ss[i]? = some x → shGood ss i x = true := fun h i y hi hy => by
        rcases Nat.lt_succ_iff_lt_or_eq.1 hi with h' | rfl
        · exact hgood.out i y h' hy
        · rw [HX.out] at hy; have hy := Option.some.inj hy; rw [← hy]; exact h
      have ST := Lib.hid step; clear step
      cases h1 : isCode item
      ·
        have BAD := Lib.hid (areBk_bad (k := k) (ds := ds) HX.out (show shGood ss j ⟨item, ids, lays⟩ = false by simp [shGood, h1]))
        go_wp2_with fail
        refine wp_region_ext (by kernel_rfl) (by kernel_rfl) ?_
        repeat (go_big_quiet_step (first | (go_at_call 41; first | exact ext_quiet (hC1 _) | exact ext_quiet (specIsCode item _ s0)) | (go_at_call 42; first | exact ext_call (hL1 h3 _ (hlr.wext _)) | exact ext_call (specAreLayers _ _ _ lays _ (hlr.wext _) n2))))
        refine wpQuiet_nil ?_
        intro _ hw'; obtain ⟨nq, hw''⟩ := hw'; subst hw''
        have b2 := below_app bu.out (below_wext _ nq) bu.out.size
        go_wp2_with fail
        go_ret
        exact ⟨ret_bool BAD.out.symm, below_app b0.out b2 b0.out.size⟩
      ·
        have HC := Lib.hid h1
        have hC1 : ∀ w, Calls Try.prog 41 #[.string item] w fun e w' => e = .returned (.bool true) ∧ w = w' := fun w => by have q := specIsCode item w s0; rw [h1] at q; exact q
        have hL1 : areLayers lays = true → ∀ w, RS w 3 lA lN (layCells lays) → Calls Try.prog 42 #[.slice lA lN lC] w fun e w' => e = .returned (.bool true) ∧ Below w.heap.size w w' := fun h w hr => by have q := specAreLayers lA lN lC lays w hr n2; rw [h] at q; exact q
        by_cases h4 : iN = lN
        ·
          subst h4
          have EL := Lib.hid (show ids.length = lays.length by rw [si.out, sl.out])
          cases h3 : areLayers lays
          ·
            have BAD := Lib.hid (areBk_bad (k := k) (ds := ds) HX.out (show shGood ss j ⟨item, ids, lays⟩ = false by simp [shGood, h3]))
            go_wp2_with fail
            refine wp_region_ext (by kernel_rfl) (by kernel_rfl) ?_
            repeat (go_big_quiet_step (first | (go_at_call 41; first | exact ext_quiet (hC1 _) | exact ext_quiet (specIsCode item _ s0)) | (go_at_call 42; first | exact ext_call (hL1 h3 _ (hlr.wext _)) | exact ext_call (specAreLayers _ _ _ lays _ (hlr.wext _) n2))))
            refine wpQuiet_nil ?_
            intro _ hw'; obtain ⟨nq, hw''⟩ := hw'; subst hw''
            have b2 := below_app bu.out (below_wext _ nq) bu.out.size
            go_wp2_with fail
            go_ret
            exact ⟨ret_bool BAD.out.symm, below_app b0.out b2 b0.out.size⟩
          ·
            by_cases hk0 : 0 < j
            ·
              obtain ⟨g', off', he', ⟨item', ids', lays'⟩, iA', iN', iC', lA', lN', lC', hx', p0, p1, p2, _, _⟩ := (hr.below hb).shAt (show j - 1 < sn by omega)
              have he' := Option.some.inj he'
              injection he' with e1 e2
              subst e1 e2
              simp only at p0
              clear p1 p2
              have d0 := cell_wext (cell_alloc p0 (Obj.cells #[.string item, .slice iA iN iC, .slice lA iN lC] 59))
              have RI := Lib.hid (shOrd_at (s := item) hk0 hx'); clear hx'
              simp only at RI
              have i3 : (0 : Int) ≤ ((j : Int) - 1) := by omega
              have i4 : ((j : Int) - 1) < sn := by omega
              have i5 : ((j : Int) - 1).toNat = j - 1 := by omega
              have i6 : ((j : Int)).toNat = j := by omega
              have i7 : (0 : Int) < j := by omega
              cases h2 : Op.bytesLess item'.toList item.toList
              ·
                have BAD := Lib.hid (areBk_bad (k := k) (ds := ds) HX.out (show shGood ss j ⟨item, ids, lays⟩ = false by simp [shGood, RI.out, txtLess, h2]))
                go_wp2_with fail
                refine wp_region_ext (by kernel_rfl) (by kernel_rfl) ?_
                repeat (go_big_quiet_step (first | (go_at_call 41; first | exact ext_quiet (hC1 _) | exact ext_quiet (specIsCode item _ s0)) | (go_at_call 42; first | exact ext_call (hL1 h3 _ (hlr.wext _)) | exact ext_call (specAreLayers _ _ _ lays _ (hlr.wext _) n2))))
                refine wpQuiet_nil ?_
                intro _ hw'; obtain ⟨nq, hw''⟩ := hw'; subst hw''
                have b2 := below_app bu.out (below_wext _ nq) bu.out.size
                go_wp2_with fail
                go_ret
                exact ⟨ret_bool BAD.out.symm, below_app b0.out b2 b0.out.size⟩
              ·
                have HO := Lib.hid (show shOrd ss j item = true by rw [RI.out, txtLess, h2])
                go_wp2_with fail
                refine wp_region_ext (by kernel_rfl) (by kernel_rfl) ?_
                repeat (go_big_quiet_step (first | (go_at_call 41; first | exact ext_quiet (hC1 _) | exact ext_quiet (specIsCode item _ s0)) | (go_at_call 42; first | exact ext_call (hL1 h3 _ (hlr.wext _)) | exact ext_call (specAreLayers _ _ _ lays _ (hlr.wext _) n2))))
                refine wpQuiet_nil ?_
                intro _ hw'; obtain ⟨nq, hw''⟩ := hw'; subst hw''
                have b2 := Lib.hid (below_wext (wu.alloc (Obj.cells #[.string item, .slice iA iN iC, .slice lA iN lC] 59)) nq)
                have XY := Lib.hid (blk_keep b2.out XX.out)
                have hi2 := hi.below b2.out
                have b3 := Lib.hid (below_app bu.out b2.out bu.out.size)
                clear a0 a1 a2 xa x0
                have y1 := blk_at XY.out (j := 1) rfl
                go_wp2_with fail
                generalize hwp : wext (wu.alloc (Obj.cells #[.string item, .slice iA iN iC, .slice lA iN lC] 59)) nq = wp at *
                clear hwp b2
                go_loopw [5] (fun i wr => ∃ m : Nat, m ≤ iN ∧ i = .int .i64 m ∧ Below wp.heap.size wp wr ∧ Hid (∀ (i : Nat) (x : Int), i < m → ids[i]? = some x → inB x 1 9999 = true)) (fun i _ => iN - (intOf i).toNat)
                case atStart => exact ⟨0, Nat.zero_le _, rfl, Below.refl _ _, fun _ _ h => absurd h (Nat.not_lt_zero _)⟩
                case round =>
                  obtain ⟨m, hm', rfl, hp, hall⟩ := hrel
                  have y1 := blk_at (blk_keep hp XY.out) (j := 1) rfl
                  by_cases hlt2 : m < iN
                  · obtain ⟨g2, off2, rfl, x, hx2, hc⟩ := (hi2.below hp).intAt hlt2
                    have HX2 := Lib.hid hx2; clear hx2
                    have m1 : (0 : Int) ≤ m := by omega
                    have m2 : (m : Int) < iN := by omega
                    cases h5 : inB x 1 9999
                    · have BAD := Lib.hid (areBk_bad (k := k) (ds := ds) HX.out (show shGood ss j ⟨item, ids, lays⟩ = false by simp [shGood, idsOk_bad HX2.out h5]))
                      go_wp2_with fail
                      refine (spec_in _ _ _ _).mono ?_; rw [h5]; rintro e w' ⟨rfl, rfl⟩
                      go_wp2_with fail
                      go_ret
                      exact ⟨ret_bool BAD.out.symm, below_app b0.out (below_app b3.out hp b3.out.size) b0.out.size⟩
                    · go_wp2_with fail
                      refine (spec_in _ _ _ _).mono ?_; rw [h5]; rintro e w' ⟨rfl, rfl⟩
                      go_wp2_with fail
                      go_roundw
                      case rel =>
                        refine ⟨m + 1, by omega, by go_num, hp, fun i y hi hy => ?_⟩
                        rcases Nat.lt_succ_iff_lt_or_eq.1 hi with h' | rfl
                        · exact hall.out i y h' hy
                        · rw [HX2.out] at hy; have hy := Option.some.inj hy; rw [← hy]; exact h5
                      case measure => simp [intOf]; omega
                  · obtain rfl : iN = m := by omega
                    have IDO := Lib.hid (idsOk_good fun i y hy => hall.out i y (by rw [← si.out]; exact (List.getElem?_eq_some_iff.1 hy).1) hy)
                    have GOOD := Lib.hid (show shGood ss j ⟨item, ids, lays⟩ = true by simp [shGood, HC.out, HO.out, h3, EL.out, IDO.out])
                    clear hall
                    go_wp2_with fail
                    go_roundw
                    case rel => exact ⟨j + 1, by omega, by go_num, below_app b3.out hp b3.out.size, ST.out GOOD.out⟩
                    case measure => simp [intOf]; omega
            ·
              have KZ := Lib.hid (show j = 0 by omega)
              have i7 : ¬ (0 : Int) < j := by omega
              have HO := Lib.hid (show shOrd ss j item = true by rw [KZ.out]; exact shOrd_zero _ _)
              go_wp2_with fail
              refine wp_region_ext (by kernel_rfl) (by kernel_rfl) ?_
              repeat (go_big_quiet_step (first | (go_at_call 41; first | exact ext_quiet (hC1 _) | exact ext_quiet (specIsCode item _ s0)) | (go_at_call 42; first | exact ext_call (hL1 h3 _ (hlr.wext _)) | exact ext_call (specAreLayers _ _ _ lays _ (hlr.wext _) n2))))
              refine wpQuiet_nil ?_
              intro _ hw'; obtain ⟨nq, hw''⟩ := hw'; subst hw''
              have b2 := Lib.hid (below_wext (wu.alloc (Obj.cells #[.string item, .slice iA iN iC, .slice lA iN lC] 59)) nq)
              have XY := Lib.hid (blk_keep b2.out XX.out)
              have hi2 := hi.below b2.out
              have b3 := Lib.hid (below_app bu.out b2.out bu.out.size)
              clear a0 a1 a2 xa x0
              have y1 := blk_at XY.out (j := 1) rfl
              go_wp2_with fail
              generalize hwp : wext (wu.alloc (Obj.cells #[.string item, .slice iA iN iC, .slice lA iN lC] 59)) nq = wp at *
              clear hwp b2
              go_loopw [5] (fun i wr => ∃ m : Nat, m ≤ iN ∧ i = .int .i64 m ∧ Below wp.heap.size wp wr ∧ Hid (∀ (i : Nat) (x : Int), i < m → ids[i]? = some x → inB x 1 9999 = true)) (fun i _ => iN - (intOf i).toNat)
              case atStart => exact ⟨0, Nat.zero_le _, rfl, Below.refl _ _, fun _ _ h => absurd h (Nat.not_lt_zero _)⟩
              case round =>
                obtain ⟨m, hm', rfl, hp, hall⟩ := hrel
                have y1 := blk_at (blk_keep hp XY.out) (j := 1) rfl
                by_cases hlt2 : m < iN
                · obtain ⟨g2, off2, rfl, x, hx2, hc⟩ := (hi2.below hp).intAt hlt2
                  have HX2 := Lib.hid hx2; clear hx2
                  have m1 : (0 : Int) ≤ m := by omega
                  have m2 : (m : Int) < iN := by omega
                  cases h5 : inB x 1 9999
                  · have BAD := Lib.hid (areBk_bad (k := k) (ds := ds) HX.out (show shGood ss j ⟨item, ids, lays⟩ = false by simp [shGood, idsOk_bad HX2.out h5]))
                    go_wp2_with fail
                    refine (spec_in _ _ _ _).mono ?_; rw [h5]; rintro e w' ⟨rfl, rfl⟩
                    go_wp2_with fail
                    go_ret
                    exact ⟨ret_bool BAD.out.symm, below_app b0.out (below_app b3.out hp b3.out.size) b0.out.size⟩
                  · go_wp2_with fail
                    refine (spec_in _ _ _ _).mono ?_; rw [h5]; rintro e w' ⟨rfl, rfl⟩
                    go_wp2_with fail
                    go_roundw
                    case rel =>
                      refine ⟨m + 1, by omega, by go_num, hp, fun i y hi hy => ?_⟩
                      rcases Nat.lt_succ_iff_lt_or_eq.1 hi with h' | rfl
                      · exact hall.out i y h' hy
                      · rw [HX2.out] at hy; have hy := Option.some.inj hy; rw [← hy]; exact h5
                    case measure => simp [intOf]; omega
                · obtain rfl : iN = m := by omega
                  have IDO := Lib.hid (idsOk_good fun i y hy => hall.out i y (by rw [← si.out]; exact (List.getElem?_eq_some_iff.1 hy).1) hy)
                  have GOOD := Lib.hid (show shGood ss j ⟨item, ids, lays⟩ = true by simp [shGood, HC.out, HO.out, h3, EL.out, IDO.out])
                  clear hall
                  go_wp2_with fail
                  go_roundw
                  case rel => exact ⟨j + 1, by omega, by go_num, below_app b3.out hp b3.out.size, ST.out GOOD.out⟩
                  case measure => simp [intOf]; omega
        ·
          have h4' : ¬ (iN : Int) = lN := by omega
          have EL := Lib.hid (show ¬ ids.length = lays.length by rw [si.out, sl.out]; exact h4)
          have h4d : decide (iN = lN) = false := decide_eq_false h4
          have h4f : ((iN : Int) != (lN : Int)) = true := bne_iff_ne.2 h4'
          have BAD := Lib.hid (areBk_bad (k := k) (ds := ds) HX.out (show shGood ss j ⟨item, ids, lays⟩ = false by simp [shGood, EL.out]))
          go_wp2_with fail
          refine wp_region_ext (by kernel_rfl) (by kernel_rfl) ?_
          repeat (go_big_quiet_step (first | (go_at_call 41; first | exact ext_quiet (hC1 _) | exact ext_quiet (specIsCode item _ s0)) | (go_at_call 42; first | exact ext_call (hL1 h3 _ (hlr.wext _)) | exact ext_call (specAreLayers _ _ _ lays _ (hlr.wext _) n2))))
          refine wpQuiet_nil ?_
          intro _ hw'; obtain ⟨nq, hw''⟩ := hw'; subst hw''
          have b2 := below_app bu.out (below_wext _ nq) bu.out.size
          go_wp2_with fail
          go_ret
          exact ⟨ret_bool BAD.out.symm, below_app b0.out b2 b0.out.size⟩
    · obtain rfl : sn = j := by omega
      have AG := Lib.hid (allAt_good (p := shGood ss) fun i x hx => hgood.out i x (by rw [← hl.out]; exact (List.getElem?_eq_some_iff.1 hx).1) hx)
      clear hgood
      have x1 := blk_at (blk_keep hb X.out) (j := 1) rfl; have x2 := blk_at (blk_keep hb X.out) (j := 2) rfl
      have hdb := hd.below hb
      by_cases h1 : sn ≤ 12
      · cases h2 : inB k 0 1000000000
        · have R := Lib.hid (show areBk ss k ds = false by simp [areBk, h2])
          go_wp2_with (first | (go_at_call 43; refine (spec_in _ _ _ _).mono ?_; rw [h2]; rintro e w' ⟨rfl, rfl⟩) | (go_at_call 44; refine (specAreDocs _ _ _ ds _ hdb hm DS.out).mono ?_; rintro e w2 ⟨rfl, hb2⟩))
          go_ret
          exact ⟨ret_bool R.out.symm, below_app b0.out hb b0.out.size⟩
        · have R := Lib.hid (show areBk ss k ds = areDocs ds by simp [areBk, h2, AG.out, hl.out, h1])
          go_wp2_with (go_at_call 43; refine (spec_in _ _ _ _).mono ?_; rw [h2]; rintro e w' ⟨rfl, rfl⟩)
          refine (specAreDocs _ _ _ ds _ hdb hm DS.out).mono ?_; rintro e w2 ⟨rfl, hb2⟩
          have b2 := below_app hb hb2 hb.size
          go_wp2_with fail
          go_ret
          exact ⟨ret_bool R.out.symm, below_app b0.out b2 b0.out.size⟩
      · have R := Lib.hid (show areBk ss k ds = false by simp [areBk, hl.out, h1])
        have h1' : ¬ (sn : Int) ≤ 12 := by omega
        go_wp2_with fail
        go_ret
        exact ⟨ret_bool R.out.symm, below_app b0.out hb b0.out.size⟩
end Go.Proofs.Ytlgodbjbllpipaa
