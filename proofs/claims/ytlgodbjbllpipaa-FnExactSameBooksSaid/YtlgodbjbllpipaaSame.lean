/- Books that are equal: the plain words, and the walks of SameBooks. No condition. -/
import Derived.Test.YtlgodbjbllpipaaShelfA
import Derived.Laws.StructEq
namespace Go.Proofs.Ytlgodbjbllpipaa
open Go.ChangeShapes Go.WideShapes Go.ChangeAt Go.RowKit

deriving instance DecidableEq for En
deriving instance DecidableEq for Shf
deriving instance DecidableEq for Doc
def sameShf (a b : Shf) : Bool := decide (a.item = b.item) && (decide (a.ids = b.ids) && decide (a.lays = b.lays))
def sameDoc (a b : Doc) : Bool := decide (a.num = b.num) && (decide (a.day = b.day) && decide (a.ents = b.ents))

theorem lay_ways (q v u q' v' u' : Int) : (q = q' ∧ v = v' ∧ u = u') ∨ ((⟨q, v, u⟩ : Lay) ≠ ⟨q', v', u'⟩ ∧ ((q = q' ∧ v = v' ∧ ¬ u = u') ∨ (q = q' ∧ ¬ v = v') ∨ ¬ q = q')) := by
  by_cases h1 : q = q' <;> by_cases h2 : v = v' <;> by_cases h3 : u = u' <;> simp [h1, h2, h3]
theorem en_ways (a : ByteArray) (x : Int) (b : ByteArray) (y : Int) : (a = b ∧ x = y) ∨ ((⟨a, x⟩ : En) ≠ ⟨b, y⟩ ∧ ((a = b ∧ ¬ x = y) ∨ ¬ a.toList = b.toList)) := by
  by_cases h1 : a = b
  · by_cases h2 : x = y <;> simp [h1, h2]
  · exact .inr ⟨by simp [h1], .inr (text_ne h1)⟩
theorem sameShf_eq (a b : Shf) : sameShf a b = decide (a = b) := by
  obtain ⟨a1, a2, a3⟩ := a; obtain ⟨b1, b2, b3⟩ := b
  simp [sameShf]
theorem sameDoc_eq (a b : Doc) : sameDoc a b = decide (a = b) := by
  obtain ⟨a1, a2, a3⟩ := a; obtain ⟨b1, b2, b3⟩ := b
  simp [sameDoc]
def sameBk (ss ss' : List Shf) (k k' : Int) (ds ds' : List Doc) : Bool := decide (k = k') && (decide (ss = ss') && decide (ds = ds'))
set_option maxRecDepth 100000 in
set_option maxHeartbeats 4000000 in
theorem implSameShelf (s t : Shf) (iA : Option Addr) (iN iC : Nat) (lA : Option Addr) (lN lC : Nat) (iA' : Option Addr) (iN' iC' : Nat) (lA' : Option Addr) (lN' lC' : Nat) (w : World)
    (hi : RS w 1 iA iN (intCells s.ids)) (hl : RS w 3 lA lN (layCells s.lays)) (hi' : RS w 1 iA' iN' (intCells t.ids)) (hl' : RS w 3 lA' lN' (layCells t.lays))
    (h1 : iN ≤ 9223372036854775807) (h2 : lN ≤ 9223372036854775807) (h3 : iN' ≤ 9223372036854775807) (h4 : lN' ≤ 9223372036854775807) :
    Calls Try.prog 37 #[.agg #[.string s.item, .slice iA iN iC, .slice lA lN lC], .agg #[.string t.item, .slice iA' iN' iC', .slice lA' lN' lC']] w fun e w' => e = .returned (.bool (sameShf s t)) ∧ Below w.heap.size w w' := by
  obtain ⟨item, ids, lays⟩ := s
  obtain ⟨item', ids', lays'⟩ := t
  simp only at hi hl hi' hl'
  have zi := Lib.hid hi.ints; have zi' := Lib.hid hi'.ints; have zl := Lib.hid hl.lay; have zl' := Lib.hid hl'.lay
  have b0 := Lib.hid (below_then (below_box w (Obj.cells #[.string item, .slice iA iN iC, .slice lA lN lC] 59)) (below_box _ (Obj.cells #[.string item', .slice iA' iN' iC', .slice lA' lN' lC'] 59)))
  by_cases e1 : item = item'
  case neg =>
    have S := Lib.hid (show sameShf ⟨item, ids, lays⟩ ⟨item', ids', lays'⟩ = false by simp [sameShf, e1])
    have n1 := text_ne e1
    clear e1
    go_enter Try.func37, Try.ntmps37
    go_wp2_with fail
    go_ret
    exact ⟨ret_bool S.out.symm, b0.out⟩
  subst e1
  by_cases e2 : iN = iN'
  case neg =>
    have S := Lib.hid (show sameShf ⟨item, ids, lays⟩ ⟨item, ids', lays'⟩ = false by
      have : ids ≠ ids' := fun h => e2 (by rw [← zi.out, ← zi'.out, h])
      simp [sameShf, this])
    have n1 : ¬ (iN : Int) = iN' := by omega
    clear e2
    go_enter Try.func37, Try.ntmps37
    go_wp2_with fail
    go_ret
    exact ⟨ret_bool S.out.symm, b0.out⟩
  subst e2
  by_cases e3 : lN = lN'
  case neg =>
    have S := Lib.hid (show sameShf ⟨item, ids, lays⟩ ⟨item, ids', lays'⟩ = false by
      have : lays ≠ lays' := fun h => e3 (by rw [← zl.out, ← zl'.out, h])
      simp [sameShf, this])
    have n1 : ¬ (lN : Int) = lN' := by omega
    clear e3
    go_enter Try.func37, Try.ntmps37
    go_wp2_with fail
    go_ret
    exact ⟨ret_bool S.out.symm, b0.out⟩
  subst e3
  have X := Lib.hid (blk_alloc (blk_new1 w (Obj.cells #[.string item, .slice iA iN iC, .slice lA lN lC] 59)) (Obj.cells #[.string item, .slice iA' iN iC', .slice lA' lN lC'] 59))
  have Y := Lib.hid (blk_new2 w (Obj.cells #[.string item, .slice iA iN iC, .slice lA lN lC] 59) (Obj.cells #[.string item, .slice iA' iN iC', .slice lA' lN lC'] 59))
  have hi := hi.below b0.out; have hi' := hi'.below b0.out; have hl := hl.below b0.out; have hl' := hl'.below b0.out
  go_enter Try.func37, Try.ntmps37
  go_wp2_with fail
  generalize hwo : (w.alloc (Obj.cells #[.string item, .slice iA iN iC, .slice lA lN lC] 59)).alloc (Obj.cells #[.string item, .slice iA' iN iC', .slice lA' lN lC'] 59) = wo at *
  clear hwo
  go_loopw [33] (fun i wr => ∃ k : Nat, k ≤ iN ∧ i = .int .i64 k ∧ Below wo.heap.size wo wr ∧ Hid (∀ j, j < k → ids[j]? = ids'[j]?)) (fun i _ => iN - (intOf i).toNat)
  case atStart => exact ⟨0, Nat.zero_le _, rfl, Below.refl _ _, fun _ h => absurd h (Nat.not_lt_zero _)⟩
  case round =>
    obtain ⟨k, hk, rfl, hb, hsame⟩ := hrel
    have x1 := blk_at (blk_keep hb X.out) (j := 1) rfl
    have y1 := blk_at (blk_keep hb Y.out) (j := 1) rfl
    by_cases hlt : k < iN
    · obtain ⟨g, off, rfl, x, hx, hc⟩ := (hi.below hb).intAt hlt
      obtain ⟨g', off', rfl, x', hx', hc'⟩ := (hi'.below hb).intAt hlt
      have HX := Lib.hid hx; clear hx
      have HX' := Lib.hid hx'; clear hx'
      have i1 : (0 : Int) ≤ k := by omega
      have i2 : (k : Int) < iN := by omega
      by_cases hxx : x = x'
      · subst hxx
        go_wp2_with fail
        go_quiet (fail)
        go_wp2_with fail
        go_roundw
        case rel =>
          refine ⟨k + 1, by omega, by go_num, below_drewN hb _, fun j hj => ?_⟩
          rcases Nat.lt_succ_iff_lt_or_eq.1 hj with h' | rfl
          · exact hsame.out j h'
          · rw [HX.out, HX'.out]
        case measure => simp [intOf]; omega
      · have S := Lib.hid (show sameShf ⟨item, ids, lays⟩ ⟨item, ids', lays'⟩ = false by
          have : ids ≠ ids' := fun h => hxx (by have := HX.out.symm.trans ((congrArg (·[k]?) h).trans HX'.out); simpa using this)
          simp [sameShf, this])
        go_wp2_with fail
        go_quiet (fail)
        go_wp2_with fail
        go_ret
        exact ⟨ret_bool S.out.symm, below_app b0.out (below_drewN hb _) b0.out.size⟩
    · obtain rfl : iN = k := by omega
      have EI := Lib.hid (show ids = ids' from ext_upto zi.out zi'.out hsame.out)
      clear hsame x1 y1
      have x2 := blk_at (blk_keep hb X.out) (j := 2) rfl
      obtain ⟨wz, hwz⟩ : ∃ x : World, x = wr := ⟨_, rfl⟩
      subst hwz
      go_wp2_with fail
      go_loopw [51] (fun i wr => ∃ k : Nat, k ≤ lN ∧ i = .int .i64 k ∧ Below wo.heap.size wo wr ∧ Hid (∀ j, j < k → lays[j]? = lays'[j]?)) (fun i _ => lN - (intOf i).toNat)
      case atStart => exact ⟨0, Nat.zero_le _, rfl, hb, fun _ h => absurd h (Nat.not_lt_zero _)⟩
      case round =>
        clear x2
        obtain ⟨k, hk, rfl, hb, hsame⟩ := hrel
        have x2 := blk_at (blk_keep hb X.out) (j := 2) rfl
        have y2 := blk_at (blk_keep hb Y.out) (j := 2) rfl
        by_cases hlt : k < lN
        · obtain ⟨g, off, rfl, q, v, u, hx, hq, hv, hu⟩ := (hl.below hb).layAt hlt
          obtain ⟨g', off', rfl, q', v', u', hx', hq', hv', hu'⟩ := (hl'.below hb).layAt hlt
          have HX := Lib.hid hx; clear hx
          have HX' := Lib.hid hx'; clear hx'
          have i1 : (0 : Int) ≤ k := by omega
          have i2 : (k : Int) < lN := by omega
          rcases lay_ways q v u q' v' u' with ⟨rfl, rfl, rfl⟩ | ⟨hne, W⟩
          · go_wp2_with fail
            go_quiet (fail)
            go_wp2_with fail
            go_roundw
            case rel =>
              refine ⟨k + 1, by omega, by go_num, below_drewN hb _, fun j hj => ?_⟩
              rcases Nat.lt_succ_iff_lt_or_eq.1 hj with h' | rfl
              · exact hsame.out j h'
              · rw [HX.out, HX'.out]
            case measure => simp [intOf]; omega
          · have S := Lib.hid (show sameShf ⟨item, ids, lays⟩ ⟨item, ids', lays'⟩ = false by
              have : lays ≠ lays' := fun h => hne (Option.some.inj (HX.out.symm.trans ((congrArg (·[k]?) h).trans HX'.out)))
              simp [sameShf, this])
            clear hne
            rcases W with ⟨rfl, rfl, n1⟩ | ⟨rfl, n1⟩ | n1
            all_goals
              go_wp2_with fail
              go_quiet (fail)
              go_wp2_with fail
              go_ret
              exact ⟨ret_bool S.out.symm, below_app b0.out (below_drewN hb _) b0.out.size⟩
        · obtain rfl : lN = k := by omega
          have S := Lib.hid (show sameShf ⟨item, ids, lays⟩ ⟨item, ids', lays'⟩ = true by
            have : lays = lays' := ext_upto zl.out zl'.out hsame.out
            simp [sameShf, this, EI.out])
          clear hsame
          go_wp2_with fail
          go_ret
          exact ⟨ret_bool S.out.symm, below_app b0.out hb b0.out.size⟩
set_option maxRecDepth 100000 in
set_option maxHeartbeats 4000000 in
theorem implSameDoc (s t : Doc) (eA : Option Addr) (eN eC : Nat) (eA' : Option Addr) (eN' eC' : Nat) (w : World)
    (hi : RS w 2 eA eN (s.ents.flatMap enCell)) (hi' : RS w 2 eA' eN' (t.ents.flatMap enCell)) (h1 : eN ≤ 9223372036854775807) (h3 : eN' ≤ 9223372036854775807) :
    Calls Try.prog 38 #[.agg #[.int .i64 s.num, .int .i64 s.day, .slice eA eN eC], .agg #[.int .i64 t.num, .int .i64 t.day, .slice eA' eN' eC']] w fun e w' => e = .returned (.bool (sameDoc s t)) ∧ Below w.heap.size w w' := by
  obtain ⟨num, day, ents⟩ := s
  obtain ⟨num', day', ents'⟩ := t
  simp only at hi hi'
  have zi := Lib.hid (hi.flatLen enCell_len (by omega)); have zi' := Lib.hid (hi'.flatLen enCell_len (by omega))
  have b0 := Lib.hid (below_then (below_box w (Obj.cells #[.int .i64 num, .int .i64 day, .slice eA eN eC] 64)) (below_box _ (Obj.cells #[.int .i64 num', .int .i64 day', .slice eA' eN' eC'] 64)))
  have W : (num = num' ∧ day = day' ∧ eN = eN') ∨ (sameDoc ⟨num, day, ents⟩ ⟨num', day', ents'⟩ = false ∧ (¬ num = num' ∨ (num = num' ∧ ¬ day = day') ∨ (num = num' ∧ day = day' ∧ ¬ (eN : Int) = eN'))) := by
    by_cases q1 : num = num'
    · by_cases q2 : day = day'
      · by_cases q3 : eN = eN'
        · exact .inl ⟨q1, q2, q3⟩
        · refine .inr ⟨?_, .inr (.inr ⟨q1, q2, by omega⟩)⟩
          have : ents ≠ ents' := fun h => q3 (by rw [← zi.out, ← zi'.out, h])
          simp [sameDoc, this]
      · exact .inr ⟨by simp [sameDoc, q2], .inr (.inl ⟨q1, q2⟩)⟩
    · exact .inr ⟨by simp [sameDoc, q1], .inl q1⟩
  rcases W with ⟨rfl, rfl, rfl⟩ | ⟨S, W⟩
  case inr =>
    have S := Lib.hid S
    rcases W with n1 | ⟨rfl, n1⟩ | ⟨rfl, rfl, n1⟩
    all_goals
      go_enter Try.func38, Try.ntmps38
      go_wp2_with fail
      go_ret
      exact ⟨ret_bool S.out.symm, b0.out⟩
  have X := Lib.hid (blk_alloc (blk_new1 w (Obj.cells #[.int .i64 num, .int .i64 day, .slice eA eN eC] 64)) (Obj.cells #[.int .i64 num, .int .i64 day, .slice eA' eN eC'] 64))
  have Y := Lib.hid (blk_new2 w (Obj.cells #[.int .i64 num, .int .i64 day, .slice eA eN eC] 64) (Obj.cells #[.int .i64 num, .int .i64 day, .slice eA' eN eC'] 64))
  have hi := hi.below b0.out; have hi' := hi'.below b0.out
  go_enter Try.func38, Try.ntmps38
  go_wp2_with fail
  generalize hwo : (w.alloc (Obj.cells #[.int .i64 num, .int .i64 day, .slice eA eN eC] 64)).alloc (Obj.cells #[.int .i64 num, .int .i64 day, .slice eA' eN eC'] 64) = wo at *
  clear hwo
  go_loopw [30] (fun i wr => ∃ k : Nat, k ≤ eN ∧ i = .int .i64 k ∧ Below wo.heap.size wo wr ∧ Hid (∀ j, j < k → ents[j]? = ents'[j]?)) (fun i _ => eN - (intOf i).toNat)
  case atStart => exact ⟨0, Nat.zero_le _, rfl, Below.refl _ _, fun _ h => absurd h (Nat.not_lt_zero _)⟩
  case round =>
    obtain ⟨k, hk, rfl, hb, hsame⟩ := hrel
    have x1 := blk_at (blk_keep hb X.out) (j := 2) rfl
    have y1 := blk_at (blk_keep hb Y.out) (j := 2) rfl
    by_cases hlt : k < eN
    · obtain ⟨g, off, rfl, ⟨ac, amt⟩, hx, hq, hv⟩ := (hi.below hb).enAt hlt
      obtain ⟨g', off', rfl, ⟨ac', amt'⟩, hx', hq', hv'⟩ := (hi'.below hb).enAt hlt
      simp only at hq hv hq' hv'
      have HX := Lib.hid hx; clear hx
      have HX' := Lib.hid hx'; clear hx'
      have i1 : (0 : Int) ≤ k := by omega
      have i2 : (k : Int) < eN := by omega
      rcases en_ways ac amt ac' amt' with ⟨rfl, rfl⟩ | ⟨hne, W⟩
      · go_wp2_with fail
        go_quiet (fail)
        go_wp2_with fail
        go_roundw
        case rel =>
          refine ⟨k + 1, by omega, by go_num, below_drewN hb _, fun j hj => ?_⟩
          rcases Nat.lt_succ_iff_lt_or_eq.1 hj with h' | rfl
          · exact hsame.out j h'
          · rw [HX.out, HX'.out]
        case measure => simp [intOf]; omega
      · have S := Lib.hid (show sameDoc ⟨num, day, ents⟩ ⟨num, day, ents'⟩ = false by
          have : ents ≠ ents' := fun h => hne (Option.some.inj (HX.out.symm.trans ((congrArg (·[k]?) h).trans HX'.out)))
          simp [sameDoc, this])
        clear hne
        rcases W with ⟨rfl, n1⟩ | n1
        all_goals
          go_wp2_with fail
          go_quiet (fail)
          go_wp2_with fail
          go_ret
          exact ⟨ret_bool S.out.symm, below_app b0.out (below_drewN hb _) b0.out.size⟩
    · obtain rfl : eN = k := by omega
      have S := Lib.hid (show sameDoc ⟨num, day, ents⟩ ⟨num, day, ents'⟩ = true by
        have : ents = ents' := ext_upto zi.out zi'.out hsame.out
        simp [sameDoc, this])
      clear hsame
      go_wp2_with fail
      go_ret
      exact ⟨ret_bool S.out.symm, below_app b0.out hb b0.out.size⟩
set_option maxRecDepth 100000 in
set_option maxHeartbeats 4000000 in
theorem implSameBooks (sA : Option Addr) (sn sc : Nat) (k : Int) (dA : Option Addr) (dn dc : Nat) (ss : List Shf) (ds : List Doc) (sA' : Option Addr) (sn' sc' : Nat) (k' : Int) (dA' : Option Addr) (dn' dc' : Nat) (ss' : List Shf) (ds' : List Doc) (w : World)
    (hr : ShelvesR w sA sn ss) (hd : DocsR w dA dn ds) (hr' : ShelvesR w sA' sn' ss') (hd' : DocsR w dA' dn' ds') (h1 : sn ≤ 1048600) (h2 : dn ≤ 1048600) (h3 : sn' ≤ 1048600) (h4 : dn' ≤ 1048600)
    (hok : ∀ s ∈ ss, shOk s) (hok' : ∀ s ∈ ss', shOk s) (hok2 : ∀ d ∈ ds, d.ents.length ≤ 1048600) (hok2' : ∀ d ∈ ds', d.ents.length ≤ 1048600) :
    Calls Try.prog 13 #[.agg #[.slice sA sn sc, .int .i64 k, .slice dA dn dc], .agg #[.slice sA' sn' sc', .int .i64 k', .slice dA' dn' dc']] w fun e w' => e = .returned (.bool (sameBk ss ss' k k' ds ds')) ∧ Below w.heap.size w w' := by
  have zi := Lib.hid hr.len; have zi' := Lib.hid hr'.len; have zl := Lib.hid hd.len; have zl' := Lib.hid hd'.len
  have OK := Lib.hid hok; have OK' := Lib.hid hok'; have OK2 := Lib.hid hok2; have OK2' := Lib.hid hok2'
  clear hok hok' hok2 hok2'
  have b0 := Lib.hid (below_then (below_box w (Obj.cells #[.slice sA sn sc, .int .i64 k, .slice dA dn dc] 31)) (below_box _ (Obj.cells #[.slice sA' sn' sc', .int .i64 k', .slice dA' dn' dc'] 31)))
  have W : (k = k' ∧ sn = sn' ∧ dn = dn') ∨ (sameBk ss ss' k k' ds ds' = false ∧ (¬ k = k' ∨ (k = k' ∧ ¬ (sn : Int) = sn') ∨ (k = k' ∧ sn = sn' ∧ ¬ (dn : Int) = dn'))) := by
    by_cases q1 : k = k'
    · by_cases q2 : sn = sn'
      · by_cases q3 : dn = dn'
        · exact .inl ⟨q1, q2, q3⟩
        · refine .inr ⟨?_, .inr (.inr ⟨q1, q2, by omega⟩)⟩
          have : ds ≠ ds' := fun h => q3 (by rw [← zl.out, ← zl'.out, h])
          simp [sameBk, this]
      · refine .inr ⟨?_, .inr (.inl ⟨q1, by omega⟩)⟩
        have : ss ≠ ss' := fun h => q2 (by rw [← zi.out, ← zi'.out, h])
        simp [sameBk, this]
    · exact .inr ⟨by simp [sameBk, q1], .inl q1⟩
  rcases W with ⟨rfl, rfl, rfl⟩ | ⟨S, W⟩
  case inr =>
    have S := Lib.hid S
    rcases W with n1 | ⟨rfl, n1⟩ | ⟨rfl, rfl, n1⟩
    all_goals
      go_enter Try.func13, Try.ntmps13
      go_wp2_with fail
      go_ret
      exact ⟨ret_bool S.out.symm, b0.out⟩
  have X := Lib.hid (blk_alloc (blk_new1 w (Obj.cells #[.slice sA sn sc, .int .i64 k, .slice dA dn dc] 31)) (Obj.cells #[.slice sA' sn sc', .int .i64 k, .slice dA' dn dc'] 31))
  have Y := Lib.hid (blk_new2 w (Obj.cells #[.slice sA sn sc, .int .i64 k, .slice dA dn dc] 31) (Obj.cells #[.slice sA' sn sc', .int .i64 k, .slice dA' dn dc'] 31))
  have hr := hr.below b0.out; have hr' := hr'.below b0.out; have hd := hd.below b0.out; have hd' := hd'.below b0.out
  go_enter Try.func13, Try.ntmps13
  go_wp2_with fail
  generalize hwo : (w.alloc (Obj.cells #[.slice sA sn sc, .int .i64 k, .slice dA dn dc] 31)).alloc (Obj.cells #[.slice sA' sn sc', .int .i64 k, .slice dA' dn dc'] 31) = wo at *
  clear hwo
  go_loopw [33] (fun i wr => ∃ j : Nat, j ≤ sn ∧ i = .int .i64 j ∧ Below wo.heap.size wo wr ∧ Hid (∀ i, i < j → ss[i]? = ss'[i]?)) (fun i _ => sn - (intOf i).toNat)
  case atStart => exact ⟨0, Nat.zero_le _, rfl, Below.refl _ _, fun _ h => absurd h (Nat.not_lt_zero _)⟩
  case round =>
    obtain ⟨j, hj, rfl, hb, hsame⟩ := hrel
    have x1 := blk_at (blk_keep hb X.out) (j := 0) rfl
    have y1 := blk_at (blk_keep hb Y.out) (j := 0) rfl
    by_cases hlt : j < sn
    · obtain ⟨g, off, rfl, x, iA, iN, iC, lA, lN, lC, hx, c0, c1, c2, hre, hrf⟩ := (hr.below hb).shAt hlt
      obtain ⟨g', off', rfl, x', iA', iN', iC', lA', lN', lC', hx', k0, k1, k2, hre', hrf'⟩ := (hr'.below hb).shAt hlt
      obtain ⟨_, o1, o2⟩ := OK.out x (List.mem_of_getElem? hx)
      obtain ⟨_, o3, o4⟩ := OK'.out x' (List.mem_of_getElem? hx')
      have HX := Lib.hid hx; clear hx
      have HX' := Lib.hid hx'; clear hx'
      have z1 := hre.ints; have z2 := hre'.ints; have z3 := hrf.lay; have z4 := hrf'.lay
      have n1 : iN ≤ 9223372036854775807 := by omega
      have n2 : iN' ≤ 9223372036854775807 := by omega
      have n3 : lN ≤ 9223372036854775807 := by omega
      have n4 : lN' ≤ 9223372036854775807 := by omega
      have i1 : (0 : Int) ≤ j := by omega
      have i2 : (j : Int) < sn := by omega
      clear z1 z2 z3 z4
      by_cases hxx : x = x'
      · have HS := (sameShf_eq x x').trans (decide_eq_true hxx)
        have HXX := Lib.hid hxx; clear hxx
        go_wp2_with fail
        have x1 := cell_wext x1; have y1 := cell_wext y1
        have a0 := cell_wext c0; have a1 := cell_wext c1; have a2 := cell_wext c2; have b0' := cell_wext k0; have b1 := cell_wext k1; have b2 := cell_wext k2
        refine wp_region_ext (by kernel_rfl) (by kernel_rfl) ?_
        repeat (go_big_quiet_step ((go_at_call 37; exact ext_call (implSameShelf x x' _ _ _ _ _ _ _ _ _ _ _ _ _ (hre.wext _) (hrf.wext _) (hre'.wext _) (hrf'.wext _) n1 n3 n2 n4))))
        refine wpQuiet_nil ?_
        intro _ hw'; obtain ⟨nq, hw''⟩ := hw'; subst hw''
        go_wp2_with fail
        go_roundw
        case rel =>
          refine ⟨j + 1, by omega, by go_num, below_app hb (below_wext _ _) hb.size, fun i hi => ?_⟩
          rcases Nat.lt_succ_iff_lt_or_eq.1 hi with h' | rfl
          · exact hsame.out i h'
          · rw [HX.out, HX'.out, HXX.out]
        case measure => simp [intOf]; omega
      · have HS := (sameShf_eq x x').trans (decide_eq_false hxx)
        have S := Lib.hid (show sameBk ss ss' k k ds ds' = false by
          have : ss ≠ ss' := fun h => hxx (Option.some.inj (HX.out.symm.trans ((congrArg (·[j]?) h).trans HX'.out)))
          simp [sameBk, this])
        clear hxx
        go_wp2_with fail
        have x1 := cell_wext x1; have y1 := cell_wext y1
        have a0 := cell_wext c0; have a1 := cell_wext c1; have a2 := cell_wext c2; have b0' := cell_wext k0; have b1 := cell_wext k1; have b2 := cell_wext k2
        refine wp_region_ext (by kernel_rfl) (by kernel_rfl) ?_
        repeat (go_big_quiet_step ((go_at_call 37; exact ext_call (implSameShelf x x' _ _ _ _ _ _ _ _ _ _ _ _ _ (hre.wext _) (hrf.wext _) (hre'.wext _) (hrf'.wext _) n1 n3 n2 n4))))
        refine wpQuiet_nil ?_
        intro _ hw'; obtain ⟨nq, hw''⟩ := hw'; subst hw''
        go_wp2_with fail
        go_ret
        exact ⟨ret_bool S.out.symm, below_app b0.out (below_app hb (below_wext _ _) hb.size) b0.out.size⟩
    · obtain rfl : sn = j := by omega
      have EI := Lib.hid (show ss = ss' from ext_upto zi.out zi'.out hsame.out)
      clear hsame x1 y1
      have x2 := blk_at (blk_keep hb X.out) (j := 2) rfl
      obtain ⟨wz, hwz⟩ : ∃ x : World, x = wr := ⟨_, rfl⟩
      subst hwz
      go_wp2_with fail
      go_loopw [52] (fun i wr => ∃ j : Nat, j ≤ dn ∧ i = .int .i64 j ∧ Below wo.heap.size wo wr ∧ Hid (∀ i, i < j → ds[i]? = ds'[i]?)) (fun i _ => dn - (intOf i).toNat)
      case atStart => exact ⟨0, Nat.zero_le _, rfl, hb, fun _ h => absurd h (Nat.not_lt_zero _)⟩
      case round =>
        clear x2 hb
        obtain ⟨j, hj, rfl, hb, hsame⟩ := hrel
        have x1 := blk_at (blk_keep hb X.out) (j := 2) rfl
        have y1 := blk_at (blk_keep hb Y.out) (j := 2) rfl
        by_cases hlt : j < dn
        · obtain ⟨g, off, rfl, x, eA, en, ec, hx, c0, c1, c2, hre⟩ := (hd.below hb).docAt hlt
          obtain ⟨g', off', rfl, x', eA', en', ec', hx', k0, k1, k2, hre'⟩ := (hd'.below hb).docAt hlt
          have o1 := OK2.out x (List.mem_of_getElem? hx)
          have o3 := OK2'.out x' (List.mem_of_getElem? hx')
          have HX := Lib.hid hx; clear hx
          have HX' := Lib.hid hx'; clear hx'
          have z1 := hre.flatLen enCell_len (by omega)
          have z2 := hre'.flatLen enCell_len (by omega)
          have n1 : en ≤ 9223372036854775807 := by omega
          have n2 : en' ≤ 9223372036854775807 := by omega
          have i1 : (0 : Int) ≤ j := by omega
          have i2 : (j : Int) < dn := by omega
          clear z1 z2 o1 o3
          by_cases hxx : x = x'
          · have HS := (sameDoc_eq x x').trans (decide_eq_true hxx)
            have HXX := Lib.hid hxx; clear hxx
            go_wp2_with fail
            have x1 := cell_wext x1; have y1 := cell_wext y1
            have a0 := cell_wext c0; have a1 := cell_wext c1; have a2 := cell_wext c2; have b0' := cell_wext k0; have b1 := cell_wext k1; have b2 := cell_wext k2
            refine wp_region_ext (by kernel_rfl) (by kernel_rfl) ?_
            repeat (go_big_quiet_step ((go_at_call 38; exact ext_call (implSameDoc x x' _ _ _ _ _ _ _ (hre.wext _) (hre'.wext _) n1 n2))))
            refine wpQuiet_nil ?_
            intro _ hw'; obtain ⟨nq, hw''⟩ := hw'; subst hw''
            go_wp2_with fail
            go_roundw
            case rel =>
              refine ⟨j + 1, by omega, by go_num, below_app hb (below_wext _ _) hb.size, fun i hi => ?_⟩
              rcases Nat.lt_succ_iff_lt_or_eq.1 hi with h' | rfl
              · exact hsame.out i h'
              · rw [HX.out, HX'.out, HXX.out]
            case measure => simp [intOf]; omega
          · have HS := (sameDoc_eq x x').trans (decide_eq_false hxx)
            have S := Lib.hid (show sameBk ss ss' k k ds ds' = false by
              have : ds ≠ ds' := fun h => hxx (Option.some.inj (HX.out.symm.trans ((congrArg (·[j]?) h).trans HX'.out)))
              simp [sameBk, this])
            clear hxx
            go_wp2_with fail
            have x1 := cell_wext x1; have y1 := cell_wext y1
            have a0 := cell_wext c0; have a1 := cell_wext c1; have a2 := cell_wext c2; have b0' := cell_wext k0; have b1 := cell_wext k1; have b2 := cell_wext k2
            refine wp_region_ext (by kernel_rfl) (by kernel_rfl) ?_
            repeat (go_big_quiet_step ((go_at_call 38; exact ext_call (implSameDoc x x' _ _ _ _ _ _ _ (hre.wext _) (hre'.wext _) n1 n2))))
            refine wpQuiet_nil ?_
            intro _ hw'; obtain ⟨nq, hw''⟩ := hw'; subst hw''
            go_wp2_with fail
            go_ret
            exact ⟨ret_bool S.out.symm, below_app b0.out (below_app hb (below_wext _ _) hb.size) b0.out.size⟩
        · obtain rfl : dn = j := by omega
          have S := Lib.hid (show sameBk ss ss' k k ds ds' = true by
            have : ds = ds' := ext_upto zl.out zl'.out hsame.out
            simp [sameBk, this, EI.out])
          clear hsame
          go_wp2_with fail
          go_ret
          exact ⟨ret_bool S.out.symm, below_app b0.out hb b0.out.size⟩
theorem shf_ways (s t : Shf) {iN iN' lN lN' : Nat} (h1 : s.ids.length = iN) (h2 : t.ids.length = iN') (h3 : s.lays.length = lN) (h4 : t.lays.length = lN') :
    (s.item = t.item ∧ iN = iN' ∧ lN = lN') ∨ (s ≠ t ∧ (¬ s.item.toList = t.item.toList ∨ (s.item = t.item ∧ ¬ (iN : Int) = iN') ∨ (s.item = t.item ∧ iN = iN' ∧ ¬ (lN : Int) = lN'))) := by
  by_cases q1 : s.item = t.item
  · by_cases q2 : iN = iN'
    · by_cases q3 : lN = lN'
      · exact .inl ⟨q1, q2, q3⟩
      · exact .inr ⟨fun h => q3 (by rw [← h3, ← h4, h]), .inr (.inr ⟨q1, q2, by omega⟩)⟩
    · exact .inr ⟨fun h => q2 (by rw [← h1, ← h2, h]), .inr (.inl ⟨q1, by omega⟩)⟩
  · exact .inr ⟨fun h => q1 (by rw [h]), .inl (text_ne q1)⟩
theorem doc_ways2 (s t : Doc) {n n' : Nat} (h1 : s.ents.length = n) (h2 : t.ents.length = n') :
    (s.num = t.num ∧ s.day = t.day ∧ n = n') ∨ (s ≠ t ∧ (¬ s.num = t.num ∨ (s.num = t.num ∧ ¬ s.day = t.day) ∨ (s.num = t.num ∧ s.day = t.day ∧ ¬ (n : Int) = n'))) := by
  by_cases q1 : s.num = t.num
  · by_cases q2 : s.day = t.day
    · by_cases q3 : n = n'
      · exact .inl ⟨q1, q2, q3⟩
      · exact .inr ⟨fun h => q3 (by rw [← h1, ← h2, h]), .inr (.inr ⟨q1, q2, by omega⟩)⟩
    · exact .inr ⟨fun h => q2 (by rw [h]), .inr (.inl ⟨q1, q2⟩)⟩
  · exact .inr ⟨fun h => q1 (by rw [h]), .inl q1⟩
theorem bk_neS {ss ss' : List Shf} {ds ds' : List Doc} {k k' : Int} {j : Nat} {x x' : Shf} (h : ss[j]? = some x) (h' : ss'[j]? = some x') (hne : x ≠ x') : sameBk ss ss' k k' ds ds' = false := by
  have : ss ≠ ss' := fun e => hne (Option.some.inj (h.symm.trans ((congrArg (·[j]?) e).trans h')))
  simp [sameBk, this]
theorem bk_neD {ss ss' : List Shf} {ds ds' : List Doc} {k k' : Int} {j : Nat} {x x' : Doc} (h : ds[j]? = some x) (h' : ds'[j]? = some x') (hne : x ≠ x') : sameBk ss ss' k k' ds ds' = false := by
  have : ds ≠ ds' := fun e => hne (Option.some.inj (h.symm.trans ((congrArg (·[j]?) e).trans h')))
  simp [sameBk, this]
theorem neAt {α : Type} {l m : List α} {j : Nat} {x y : α} (h : l[j]? = some x) (h' : m[j]? = some y) (hne : x ≠ y) : l ≠ m := fun e => hne (Option.some.inj (h.symm.trans ((congrArg (·[j]?) e).trans h')))
set_option maxRecDepth 100000 in
set_option maxHeartbeats 8000000 in
theorem specSameBooks (sA : Option Addr) (sn sc : Nat) (k : Int) (dA : Option Addr) (dn dc : Nat) (ss : List Shf) (ds : List Doc) (sA' : Option Addr) (sn' sc' : Nat) (k' : Int) (dA' : Option Addr) (dn' dc' : Nat) (ss' : List Shf) (ds' : List Doc) (w : World)
    (hr : ShelvesR w sA sn ss) (hd : DocsR w dA dn ds) (hr' : ShelvesR w sA' sn' ss') (hd' : DocsR w dA' dn' ds') (h1 : sn ≤ 1048600) (h2 : dn ≤ 1048600) (h3 : sn' ≤ 1048600) (h4 : dn' ≤ 1048600)
    (hok : ∀ s ∈ ss, shOk s) (hok' : ∀ s ∈ ss', shOk s) (hok2 : ∀ d ∈ ds, d.ents.length ≤ 1048600) (hok2' : ∀ d ∈ ds', d.ents.length ≤ 1048600) :
    Calls Try.prog 11 #[.agg #[.slice sA sn sc, .int .i64 k, .slice dA dn dc], .agg #[.slice sA' sn' sc', .int .i64 k', .slice dA' dn' dc']] w fun e w' => e = .returned (.bool (sameBk ss ss' k k' ds ds')) ∧ Below w.heap.size w w' := by
  have zi := Lib.hid hr.len; have zi' := Lib.hid hr'.len; have zl := Lib.hid hd.len; have zl' := Lib.hid hd'.len
  have OK := Lib.hid hok; have OK' := Lib.hid hok'; have OK2 := Lib.hid hok2; have OK2' := Lib.hid hok2'
  clear hok hok' hok2 hok2'
  have b0 := Lib.hid (below_then (below_box w (Obj.cells #[.slice sA sn sc, .int .i64 k, .slice dA dn dc] 31)) (below_box _ (Obj.cells #[.slice sA' sn' sc', .int .i64 k', .slice dA' dn' dc'] 31)))
  have W : (k = k' ∧ sn = sn' ∧ dn = dn') ∨ (sameBk ss ss' k k' ds ds' = false ∧ (¬ (sn : Int) = sn' ∨ (sn = sn' ∧ ¬ k = k') ∨ (k = k' ∧ sn = sn' ∧ ¬ (dn : Int) = dn'))) := by
    by_cases q2 : sn = sn'
    · by_cases q1 : k = k'
      · by_cases q3 : dn = dn'
        · exact .inl ⟨q1, q2, q3⟩
        · refine .inr ⟨?_, .inr (.inr ⟨q1, q2, by omega⟩)⟩
          have : ds ≠ ds' := fun h => q3 (by rw [← zl.out, ← zl'.out, h])
          simp [sameBk, this]
      · exact .inr ⟨by simp [sameBk, q1], .inr (.inl ⟨q2, q1⟩)⟩
    · refine .inr ⟨?_, .inl (by omega)⟩
      have : ss ≠ ss' := fun h => q2 (by rw [← zi.out, ← zi'.out, h])
      simp [sameBk, this]
  rcases W with ⟨rfl, rfl, rfl⟩ | ⟨S, W⟩
  case inr =>
    have S := Lib.hid S
    rcases W with n1 | ⟨rfl, n1⟩ | ⟨rfl, rfl, n1⟩
    all_goals
      go_enter Try.func11, Try.ntmps11
      go_wp2_with fail
      go_ret
      exact ⟨ret_bool S.out.symm, b0.out⟩
  have X := Lib.hid (blk_alloc (blk_new1 w (Obj.cells #[.slice sA sn sc, .int .i64 k, .slice dA dn dc] 31)) (Obj.cells #[.slice sA' sn sc', .int .i64 k, .slice dA' dn dc'] 31))
  have Y := Lib.hid (blk_new2 w (Obj.cells #[.slice sA sn sc, .int .i64 k, .slice dA dn dc] 31) (Obj.cells #[.slice sA' sn sc', .int .i64 k, .slice dA' dn dc'] 31))
  have hr := hr.below b0.out; have hr' := hr'.below b0.out; have hd := hd.below b0.out; have hd' := hd'.below b0.out
  go_enter Try.func11, Try.ntmps11
  go_wp2_with fail
  generalize hwo : (w.alloc (Obj.cells #[.slice sA sn sc, .int .i64 k, .slice dA dn dc] 31)).alloc (Obj.cells #[.slice sA' sn sc', .int .i64 k, .slice dA' dn dc'] 31) = wo at *
  clear hwo
  go_loopw [5] (fun i wr => ∃ j : Nat, j ≤ sn ∧ i = .int .i64 j ∧ Below wo.heap.size wo wr ∧ Hid (∀ i, i < j → ss[i]? = ss'[i]?)) (fun i _ => sn - (intOf i).toNat)
  case atStart => exact ⟨0, Nat.zero_le _, rfl, Below.refl _ _, fun _ h => absurd h (Nat.not_lt_zero _)⟩
  case round =>
    obtain ⟨j, hj, rfl, hb, hsame⟩ := hrel
    obtain ⟨wu, hwu⟩ : ∃ x : World, x = wr := ⟨_, rfl⟩
    subst hwu
    have x1 := blk_at (blk_keep hb X.out) (j := 0) rfl
    have y1 := blk_at (blk_keep hb Y.out) (j := 0) rfl
    have hz := hb.size
    by_cases hlt : j < sn
    · obtain ⟨g, off, rfl, ⟨item, ids, lays⟩, iA, iN, iC, lA, lN, lC, hx, c0, c1, c2, hi, hl⟩ := (hr.below hb).shAt hlt
      obtain ⟨g', off', rfl, ⟨item', ids', lays'⟩, iA', iN', iC', lA', lN', lC', hx', k0, k1, k2, hi', hl'⟩ := (hr'.below hb).shAt hlt
      obtain ⟨_, o1, o2⟩ := OK.out _ (List.mem_of_getElem? hx)
      obtain ⟨_, o3, o4⟩ := OK'.out _ (List.mem_of_getElem? hx')
      have HX := Lib.hid hx; clear hx
      have HX' := Lib.hid hx'; clear hx'
      simp only at c0 c1 c2 hi hl k0 k1 k2 hi' hl' o1 o2 o3 o4
      have si := Lib.hid hi.ints; have si' := Lib.hid hi'.ints; have sl := Lib.hid hl.lay; have sl' := Lib.hid hl'.lay
      have n1 : iN ≤ 9223372036854775807 := by rw [← si.out]; exact o1
      have n2 : iN' ≤ 9223372036854775807 := by rw [← si'.out]; exact o3
      have n3 : lN ≤ 9223372036854775807 := by rw [← sl.out]; exact o2
      have n4 : lN' ≤ 9223372036854775807 := by rw [← sl'.out]; exact o4
      have i1 : (0 : Int) ≤ j := by omega
      have i2 : (j : Int) < sn := by omega
      clear o1 o2 o3 o4
      have ya := cell_alloc y1; have ka0 := cell_alloc k0; have ka1 := cell_alloc k1; have ka2 := cell_alloc k2
      have bu := Lib.hid ((hb.alloc hb.size (Obj.cells #[.string item, .slice iA iN iC, .slice lA lN lC] 59)).alloc (by simp only [World.size_alloc]; omega) (Obj.cells #[.string item', .slice iA' iN' iC', .slice lA' lN' lC'] 59))
      rcases shf_ways ⟨item, ids, lays⟩ ⟨item', ids', lays'⟩ si.out si'.out sl.out sl'.out with ⟨q1, q2, q3⟩ | ⟨hne, W⟩
      · simp only at q1
        subst q1 q2 q3
        have XX := Lib.hid (blk_alloc (blk_new1 wu (Obj.cells #[.string item, .slice iA iN iC, .slice lA lN lC] 59)) (Obj.cells #[.string item, .slice iA' iN iC', .slice lA' lN lC'] 59))
        have YY := Lib.hid (blk_new2 wu (Obj.cells #[.string item, .slice iA iN iC, .slice lA lN lC] 59) (Obj.cells #[.string item, .slice iA' iN iC', .slice lA' lN lC'] 59))
        have hi := (hi.alloc (Obj.cells #[.string item, .slice iA iN iC, .slice lA lN lC] 59)).alloc (Obj.cells #[.string item, .slice iA' iN iC', .slice lA' lN lC'] 59); have hi' := (hi'.alloc (Obj.cells #[.string item, .slice iA iN iC, .slice lA lN lC] 59)).alloc (Obj.cells #[.string item, .slice iA' iN iC', .slice lA' lN lC'] 59)
        have hl := (hl.alloc (Obj.cells #[.string item, .slice iA iN iC, .slice lA lN lC] 59)).alloc (Obj.cells #[.string item, .slice iA' iN iC', .slice lA' lN lC'] 59); have hl' := (hl'.alloc (Obj.cells #[.string item, .slice iA iN iC, .slice lA lN lC] 59)).alloc (Obj.cells #[.string item, .slice iA' iN iC', .slice lA' lN lC'] 59)
        go_wp2_with fail
        generalize hwp : (wu.alloc (Obj.cells #[.string item, .slice iA iN iC, .slice lA lN lC] 59)).alloc (Obj.cells #[.string item, .slice iA' iN iC', .slice lA' lN lC'] 59) = wp at *
        clear hwp
        go_loopw [8] (fun i wr => ∃ m : Nat, m ≤ iN ∧ i = .int .i64 m ∧ Below wp.heap.size wp wr ∧ Hid (∀ i, i < m → ids[i]? = ids'[i]?)) (fun i _ => iN - (intOf i).toNat)
        case atStart => exact ⟨0, Nat.zero_le _, rfl, Below.refl _ _, fun _ h => absurd h (Nat.not_lt_zero _)⟩
        case round =>
          obtain ⟨m, hm, rfl, hp, hsm⟩ := hrel
          have u1 := blk_at (blk_keep hp XX.out) (j := 1) rfl
          have v1 := blk_at (blk_keep hp YY.out) (j := 1) rfl
          by_cases hlt2 : m < iN
          · obtain ⟨g2, off2, rfl, x, hx2, hc⟩ := (hi.below hp).intAt hlt2
            obtain ⟨g2', off2', rfl, x', hx2', hc'⟩ := (hi'.below hp).intAt hlt2
            have HX2 := Lib.hid hx2; clear hx2
            have HX2' := Lib.hid hx2'; clear hx2'
            have m1 : (0 : Int) ≤ m := by omega
            have m2 : (m : Int) < iN := by omega
            by_cases hxx : x = x'
            · subst hxx
              go_wp2_with fail
              go_quiet (fail)
              go_wp2_with fail
              go_roundw
              case rel =>
                refine ⟨m + 1, by omega, by go_num, below_drewN hp _, fun i hi => ?_⟩
                rcases Nat.lt_succ_iff_lt_or_eq.1 hi with h' | rfl
                · exact hsm.out i h'
                · rw [HX2.out, HX2'.out]
              case measure => simp [intOf]; omega
            · have S := Lib.hid (bk_neS (k := k) (k' := k) (ds := ds) (ds' := ds') HX.out HX'.out (fun h => neAt HX2.out HX2'.out hxx (by injection h)))
              go_wp2_with fail
              go_quiet (fail)
              go_wp2_with fail
              go_ret
              exact ⟨ret_bool S.out.symm, below_app b0.out (below_app bu.out (below_drewN hp _) bu.out.size) b0.out.size⟩
          · obtain rfl : iN = m := by omega
            have EI := Lib.hid (show ids = ids' from ext_upto si.out si'.out hsm.out)
            clear hsm
            obtain ⟨wz, hwz⟩ : ∃ x : World, x = wr := ⟨_, rfl⟩
            subst hwz
            go_wp2_with fail
            go_loopw [9] (fun i wr => ∃ m : Nat, m ≤ lN ∧ i = .int .i64 m ∧ Below wp.heap.size wp wr ∧ Hid (∀ i, i < m → lays[i]? = lays'[i]?)) (fun i _ => lN - (intOf i).toNat)
            case atStart => exact ⟨0, Nat.zero_le _, rfl, hp, fun _ h => absurd h (Nat.not_lt_zero _)⟩
            case round =>
              clear u1 v1 hp
              obtain ⟨m, hm, rfl, hp, hsm⟩ := hrel
              have u2 := blk_at (blk_keep hp XX.out) (j := 2) rfl
              have v2 := blk_at (blk_keep hp YY.out) (j := 2) rfl
              by_cases hlt2 : m < lN
              · obtain ⟨g2, off2, rfl, q, v, u, hx2, hq, hv, hu⟩ := (hl.below hp).layAt hlt2
                obtain ⟨g2', off2', rfl, q', v', u', hx2', hq', hv', hu'⟩ := (hl'.below hp).layAt hlt2
                have HX2 := Lib.hid hx2; clear hx2
                have HX2' := Lib.hid hx2'; clear hx2'
                have m1 : (0 : Int) ≤ m := by omega
                have m2 : (m : Int) < lN := by omega
                rcases lay_ways q v u q' v' u' with ⟨rfl, rfl, rfl⟩ | ⟨hne, W⟩
                · go_wp2_with fail
                  go_quiet (fail)
                  go_wp2_with fail
                  go_roundw
                  case rel =>
                    refine ⟨m + 1, by omega, by go_num, below_drewN hp _, fun i hi => ?_⟩
                    rcases Nat.lt_succ_iff_lt_or_eq.1 hi with h' | rfl
                    · exact hsm.out i h'
                    · rw [HX2.out, HX2'.out]
                  case measure => simp [intOf]; omega
                · have S := Lib.hid (bk_neS (k := k) (k' := k) (ds := ds) (ds' := ds') HX.out HX'.out (fun h => neAt HX2.out HX2'.out hne (by injection h)))
                  clear hne
                  rcases W with ⟨rfl, rfl, r1⟩ | ⟨rfl, r1⟩ | r1
                  all_goals
                    go_wp2_with fail
                    go_quiet (fail)
                    go_wp2_with fail
                    go_ret
                    exact ⟨ret_bool S.out.symm, below_app b0.out (below_app bu.out (below_drewN hp _) bu.out.size) b0.out.size⟩
              · obtain rfl : lN = m := by omega
                have EL := Lib.hid (show lays = lays' from ext_upto sl.out sl'.out hsm.out)
                clear hsm
                go_wp2_with fail
                go_roundw
                case rel =>
                  refine ⟨j + 1, by omega, by go_num, below_app bu.out hp bu.out.size, fun i hi => ?_⟩
                  rcases Nat.lt_succ_iff_lt_or_eq.1 hi with h' | rfl
                  · exact hsame.out i h'
                  · rw [HX.out, HX'.out, EI.out, EL.out]
                case measure => simp [intOf]; omega
      · have S := Lib.hid (bk_neS (k := k) (k' := k) (ds := ds) (ds' := ds') HX.out HX'.out hne)
        clear hne
        simp only at W
        rcases W with r1 | ⟨rfl, r1⟩ | ⟨rfl, rfl, r1⟩
        all_goals
          go_wp2_with fail
          go_ret
          exact ⟨ret_bool S.out.symm, below_app b0.out bu.out b0.out.size⟩
    · obtain rfl : sn = j := by omega
      have EI := Lib.hid (show ss = ss' from ext_upto zi.out zi'.out hsame.out)
      clear hsame
      go_wp2_with fail
      go_loopw [10] (fun i wr => ∃ j : Nat, j ≤ dn ∧ i = .int .i64 j ∧ Below wo.heap.size wo wr ∧ Hid (∀ i, i < j → ds[i]? = ds'[i]?)) (fun i _ => dn - (intOf i).toNat)
      case atStart => exact ⟨0, Nat.zero_le _, rfl, hb, fun _ h => absurd h (Nat.not_lt_zero _)⟩
      case round =>
        clear x1 y1 hb hz
        obtain ⟨j, hj, rfl, hb, hsame⟩ := hrel
        obtain ⟨wv, hwv⟩ : ∃ x : World, x = wr := ⟨_, rfl⟩
        subst hwv
        have x1 := blk_at (blk_keep hb X.out) (j := 2) rfl
        have y1 := blk_at (blk_keep hb Y.out) (j := 2) rfl
        have hz := hb.size
        by_cases hlt : j < dn
        · obtain ⟨g, off, rfl, ⟨num, day, ents⟩, eA, en, ec, hx, c0, c1, c2, hi⟩ := (hd.below hb).docAt hlt
          obtain ⟨g', off', rfl, ⟨num', day', ents'⟩, eA', en', ec', hx', k0, k1, k2, hi'⟩ := (hd'.below hb).docAt hlt
          have o1 := OK2.out _ (List.mem_of_getElem? hx)
          have o3 := OK2'.out _ (List.mem_of_getElem? hx')
          have HX := Lib.hid hx; clear hx
          have HX' := Lib.hid hx'; clear hx'
          simp only at c0 c1 c2 hi k0 k1 k2 hi' o1 o3
          have si := Lib.hid (hi.flatLen enCell_len (by omega)); have si' := Lib.hid (hi'.flatLen enCell_len (by omega))
          have n1 : en ≤ 9223372036854775807 := by rw [← si.out]; omega
          have n2 : en' ≤ 9223372036854775807 := by rw [← si'.out]; omega
          have i1 : (0 : Int) ≤ j := by omega
          have i2 : (j : Int) < dn := by omega
          clear o1 o3
          have ya := cell_alloc y1; have ka0 := cell_alloc k0; have ka1 := cell_alloc k1; have ka2 := cell_alloc k2
          have bu := Lib.hid ((hb.alloc hb.size (Obj.cells #[.int .i64 num, .int .i64 day, .slice eA en ec] 64)).alloc (by simp only [World.size_alloc]; omega) (Obj.cells #[.int .i64 num', .int .i64 day', .slice eA' en' ec'] 64))
          rcases doc_ways2 ⟨num, day, ents⟩ ⟨num', day', ents'⟩ si.out si'.out with ⟨q1, q2, q3⟩ | ⟨hne, W⟩
          · simp only at q1 q2
            subst q1 q2 q3
            have XX := Lib.hid (blk_alloc (blk_new1 wv (Obj.cells #[.int .i64 num, .int .i64 day, .slice eA en ec] 64)) (Obj.cells #[.int .i64 num, .int .i64 day, .slice eA' en ec'] 64))
            have YY := Lib.hid (blk_new2 wv (Obj.cells #[.int .i64 num, .int .i64 day, .slice eA en ec] 64) (Obj.cells #[.int .i64 num, .int .i64 day, .slice eA' en ec'] 64))
            have hi := (hi.alloc (Obj.cells #[.int .i64 num, .int .i64 day, .slice eA en ec] 64)).alloc (Obj.cells #[.int .i64 num, .int .i64 day, .slice eA' en ec'] 64); have hi' := (hi'.alloc (Obj.cells #[.int .i64 num, .int .i64 day, .slice eA en ec] 64)).alloc (Obj.cells #[.int .i64 num, .int .i64 day, .slice eA' en ec'] 64)
            go_wp2_with fail
            generalize hwp : (wv.alloc (Obj.cells #[.int .i64 num, .int .i64 day, .slice eA en ec] 64)).alloc (Obj.cells #[.int .i64 num, .int .i64 day, .slice eA' en ec'] 64) = wp at *
            clear hwp
            go_loopw [13] (fun i wr => ∃ m : Nat, m ≤ en ∧ i = .int .i64 m ∧ Below wp.heap.size wp wr ∧ Hid (∀ i, i < m → ents[i]? = ents'[i]?)) (fun i _ => en - (intOf i).toNat)
            case atStart => exact ⟨0, Nat.zero_le _, rfl, Below.refl _ _, fun _ h => absurd h (Nat.not_lt_zero _)⟩
            case round =>
              obtain ⟨m, hm, rfl, hp, hsm⟩ := hrel
              have u2 := blk_at (blk_keep hp XX.out) (j := 2) rfl
              have v2 := blk_at (blk_keep hp YY.out) (j := 2) rfl
              by_cases hlt2 : m < en
              · obtain ⟨g2, off2, rfl, ⟨ac, amt⟩, hx2, hq, hv⟩ := (hi.below hp).enAt hlt2
                obtain ⟨g2', off2', rfl, ⟨ac', amt'⟩, hx2', hq', hv'⟩ := (hi'.below hp).enAt hlt2
                simp only at hq hv hq' hv'
                have HX2 := Lib.hid hx2; clear hx2
                have HX2' := Lib.hid hx2'; clear hx2'
                have m1 : (0 : Int) ≤ m := by omega
                have m2 : (m : Int) < en := by omega
                rcases en_ways ac amt ac' amt' with ⟨rfl, rfl⟩ | ⟨hne, W⟩
                · go_wp2_with fail
                  go_quiet (fail)
                  go_wp2_with fail
                  go_roundw
                  case rel =>
                    refine ⟨m + 1, by omega, by go_num, below_drewN hp _, fun i hi => ?_⟩
                    rcases Nat.lt_succ_iff_lt_or_eq.1 hi with h' | rfl
                    · exact hsm.out i h'
                    · rw [HX2.out, HX2'.out]
                  case measure => simp [intOf]; omega
                · have S := Lib.hid (bk_neD (ss := ss) (ss' := ss') (k := k) (k' := k) HX.out HX'.out (fun h => neAt HX2.out HX2'.out hne (by injection h)))
                  clear hne
                  rcases W with ⟨rfl, r1⟩ | r1
                  all_goals
                    go_wp2_with fail
                    go_quiet (fail)
                    go_wp2_with fail
                    go_ret
                    exact ⟨ret_bool S.out.symm, below_app b0.out (below_app bu.out (below_drewN hp _) bu.out.size) b0.out.size⟩
              · obtain rfl : en = m := by omega
                have EL := Lib.hid (show ents = ents' from ext_upto si.out si'.out hsm.out)
                clear hsm
                go_wp2_with fail
                go_roundw
                case rel =>
                  refine ⟨j + 1, by omega, by go_num, below_app bu.out hp bu.out.size, fun i hi => ?_⟩
                  rcases Nat.lt_succ_iff_lt_or_eq.1 hi with h' | rfl
                  · exact hsame.out i h'
                  · rw [HX.out, HX'.out, EL.out]
                case measure => simp [intOf]; omega
          · have S := Lib.hid (bk_neD (ss := ss) (ss' := ss') (k := k) (k' := k) HX.out HX'.out hne)
            clear hne
            simp only at W
            rcases W with r1 | ⟨rfl, r1⟩ | ⟨rfl, rfl, r1⟩
            all_goals
              go_wp2_with fail
              go_ret
              exact ⟨ret_bool S.out.symm, below_app b0.out bu.out b0.out.size⟩
        · obtain rfl : dn = j := by omega
          have S := Lib.hid (show sameBk ss ss' k k ds ds' = true by
            have : ds = ds' := ext_upto zl.out zl'.out hsame.out
            simp [sameBk, this, EI.out])
          clear hsame
          go_wp2_with fail
          go_ret
          exact ⟨ret_bool S.out.symm, below_app b0.out hb b0.out.size⟩
end Go.Proofs.Ytlgodbjbllpipaa
