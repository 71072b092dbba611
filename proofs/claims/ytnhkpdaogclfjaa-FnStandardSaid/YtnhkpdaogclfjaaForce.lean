/- Lines in force: the plain words, and the walks of l9On, copyLine, inForce. No condition. -/
import Derived.Test.YtnhkpdaogclfjaaBillsW
import Derived.Test.YtnhkpdaogclfjaaEvalW
namespace Go.Proofs.Ytnhkpdaogclfjaa
open Go.ChangeShapes Go.WideShapes Go.ChangeAt Go.RowKit

def lineOn (day : Int) (ch : List Pk) (x : Bl) : Bool := decide (x.fr ≤ day) && (decide (day ≤ x.un) && evalC ch x.cond)
def force (l : List Bl) (day : Int) (ch : List Pk) : List Bl := l.filter (lineOn day ch)
abbrev blAgg (x : BV) : Value := .agg #[.string x.par, .string x.part, .int .i64 x.qty, .int .i64 x.fr, .int .i64 x.un, .slice x.eA x.en x.ec]
set_option maxHeartbeats 2000000 in
theorem specOn (x : Bl) (eA : Option Addr) (en ec : Nat) (day : Int) (B : Option Addr) (m d : Nat) (ch : List Pk) (w : World) (hr : RS w 3 eA en (x.cond.flatMap cnCell)) (hrp : RS w 2 B m (ch.flatMap pkCell)) (hm : m ≤ 9223372036854775807) (hic : isCond x.cond = true) :
    Calls Try.prog 44 #[blAgg ⟨x.par, x.part, x.qty, x.fr, x.un, eA, en, ec⟩, .int .i64 day, .slice B m d] w fun e w' => e = .returned (.bool (lineOn day ch x)) ∧ Below w.heap.size w w' := by
  obtain ⟨par, part, qty, fr, un, cond⟩ := x
  simp only at hr hic ⊢
  have b0 := below_box w (Obj.cells #[.string par, .string part, .int .i64 qty, .int .i64 fr, .int .i64 un, .slice eA en ec] 82)
  by_cases h1 : fr ≤ day
  · by_cases h2 : day ≤ un
    · have R := Lib.hid (show lineOn day ch ⟨par, part, qty, fr, un, cond⟩ = evalC ch cond by simp [lineOn, h1, h2])
      go_enter Try.func44, Try.ntmps44
      go_wp2_with (go_at_call 66; refine (specEval _ _ _ cond _ _ _ ch _ (hr.alloc _) (hrp.alloc _) hm hic).mono ?_; rintro e w' ⟨rfl, hb⟩)
      go_ret
      exact ⟨ret_bool R.out.symm, below_then b0 hb⟩
    · have R := Lib.hid (show lineOn day ch ⟨par, part, qty, fr, un, cond⟩ = false by simp [lineOn, h2])
      go_enter Try.func44, Try.ntmps44
      go_wp2_with fail
      go_ret
      exact ⟨ret_bool R.out.symm, b0⟩
  · have R := Lib.hid (show lineOn day ch ⟨par, part, qty, fr, un, cond⟩ = false by simp [lineOn, h1])
    go_enter Try.func44, Try.ntmps44
    go_wp2_with fail
    go_ret
    exact ⟨ret_bool R.out.symm, b0⟩
theorem own_setlow {w : World} {base size n : Nat} {e : TypeId} {v : Value} {xs : List Value} (h : w.ownsRow base e size v n xs) {p : Addr} (hp : p.block < base) (u : Value) : (w.setCell p u).ownsRow base e size v n xs :=
  own_grown h (grown_set w p u) (by
    cases hv : v.ownBlock with
    | none => exact .inl rfl
    | some k => refine .inr fun he => ?_
                have := (h.lt k hv).1
                injection he with he
                omega)
theorem own_types {w : World} {b1 s1 n1 b2 s2 n2 : Nat} {e1 e2 : TypeId} {v1 v2 : Value} {xs1 xs2 : List Value} (h : w.ownsRow b1 e1 s1 v1 n1 xs1) (h' : w.ownsRow b2 e2 s2 v2 n2 xs2) (hne : e1 ≠ e2) : v1.ownBlock = none ∨ v1.ownBlock ≠ v2.ownBlock := by
  rcases h.2 with ⟨hv, _⟩ | ⟨g, cap, cur, hv, _, hg, _⟩
  · exact .inl (by rw [hv]; rfl)
  · refine .inr fun he => ?_
    rcases h'.2 with ⟨hv', _⟩ | ⟨g', cap', cur', hv', _, hg', _⟩
    · rw [hv, hv'] at he; cases he
    · rw [hv, hv'] at he
      have : g = g' := by injection he
      subst this
      rw [hg] at hg'
      injection hg' with hg'
      injection hg' with _ ht _
      exact hne ht
/-- Lines that a call made. -/
def LinesO (w : World) (lo : Nat) (A : Option Addr) (n c : Nat) (ds : List Bl) : Prop :=
  ∃ vs : List BV, w.ownsRow lo 82 6 (.slice A n c) n (vs.flatMap blCell) ∧ vs.length = ds.length ∧ ∀ (i : Nat) (x : BV) (d : Bl), vs[i]? = some x → ds[i]? = some d → SameFlat x d ∧ w.ownsRow lo 126 3 (bvRow x) x.en (d.cond.flatMap cnCell)
theorem LinesO.below {w w' : World} {lo n c : Nat} {A : Option Addr} {ds : List Bl} (h : LinesO w lo A n c ds) (hb : Below w.heap.size w w') : LinesO w' lo A n c ds := by
  obtain ⟨vs, h1, h2, h3⟩ := h
  exact ⟨vs, own_below h1 hb, h2, fun i x d hx hd => let ⟨a, b⟩ := h3 i x d hx hd; ⟨a, own_below b hb⟩⟩
theorem LinesO.read {w : World} {lo n c : Nat} {A : Option Addr} {ds : List Bl} (h : LinesO w lo A n c ds) : BillsR w A n ds := by
  obtain ⟨vs, h1, h2, h3⟩ := h
  exact ⟨vs, RS.of_own h1, h2, fun i x d hx hd => let ⟨a, b⟩ := h3 i x d hx hd; ⟨a, RS.of_own b⟩⟩
theorem lines_snoc {w w' : World} {lo n c c' : Nat} {A A' : Option Addr} {vs : List BV} {ds : List Bl} {x : BV} {d : Bl} (o : w.ownsRow lo 82 6 (.slice A n c) n (vs.flatMap blCell)) (hl : vs.length = ds.length)
    (h3 : ∀ (i : Nat) (x : BV) (d : Bl), vs[i]? = some x → ds[i]? = some d → SameFlat x d ∧ w.ownsRow lo 126 3 (bvRow x) x.en (d.cond.flatMap cnCell))
    (hs : SameFlat x d) (hc : w.ownsRow lo 126 3 (bvRow x) x.en (d.cond.flatMap cnCell)) (hg : w.grownBy w' (Value.slice A n c).ownBlock) (ho : w'.ownsRow lo 82 6 (.slice A' (n + 1) c') (n + 1) (vs.flatMap blCell ++ blCell x)) :
    LinesO w' lo A' (n + 1) c' (ds ++ [d]) := by
  refine ⟨vs ++ [x], by rw [flat_append, flat_one]; exact ho, by simp [hl], fun i y e hy he => ?_⟩
  have kp : ∀ (v : Value) (m : Nat) (ys : List Value), w.ownsRow lo 126 3 v m ys → w'.ownsRow lo 126 3 v m ys := fun v m ys h => own_grown h hg (own_types h o (by decide))
  rcases Nat.lt_or_ge i vs.length with hi | hi
  · rw [List.getElem?_append_left hi] at hy
    rw [List.getElem?_append_left (by omega)] at he
    obtain ⟨a, b⟩ := h3 i y e hy he
    exact ⟨a, kp _ _ _ b⟩
  · have h0 : i = vs.length := by
      have := (List.getElem?_eq_some_iff.1 hy).1
      simp at this; omega
    subst h0
    rw [List.getElem?_append_right (Nat.le_refl _), Nat.sub_self] at hy
    rw [List.getElem?_append_right (by omega), hl, Nat.sub_self] at he
    simp at hy he
    subst hy he
    exact ⟨hs, kp _ _ _ hc⟩
theorem filter_take {α : Type} {p : α → Bool} {l : List α} {k : Nat} {x : α} (h : l[k]? = some x) : (l.take (k + 1)).filter p = (l.take k).filter p ++ (if p x = true then [x] else []) := by
  rw [List.take_add_one, h, List.filter_append]
  simp [List.filter_cons]
theorem on_yes {day : Int} {ch : List Pk} {x : Bl} (h1 : x.fr ≤ day) (h2 : day ≤ x.un) : lineOn day ch x = evalC ch x.cond := by simp [lineOn, h1, h2]
set_option maxRecDepth 100000 in
set_option maxHeartbeats 4000000 in
theorem implCopyLine (x : Bl) (eA : Option Addr) (en ec : Nat) (w : World) (hr : RS w 3 eA en (x.cond.flatMap cnCell)) (hn : en ≤ 1048600) :
    Calls Try.prog 71 #[blAgg ⟨x.par, x.part, x.qty, x.fr, x.un, eA, en, ec⟩] w fun e w' => ∃ B c', e = .returned (blAgg ⟨x.par, x.part, x.qty, x.fr, x.un, B, en, c'⟩) ∧ w'.ownsRow w.heap.size 126 3 (.slice B en c') en (x.cond.flatMap cnCell) ∧ Below w.heap.size w w' := by
  obtain ⟨par, part, qty, fr, un, cond⟩ := x
  simp only at hr ⊢
  obtain ⟨i0, hi, hz0, hz1, hz2⟩ := info_parts cnInfo
  have X0 := Lib.hid (blk_alloc (blk_alloc (blk_new1 w (Obj.cells #[.string par, .string part, .int .i64 qty, .int .i64 fr, .int .i64 un, .slice eA en ec] 82)) (Obj.cells #[.string ⟨#[]⟩, .string ⟨#[]⟩, .int .i64 0, .int .i64 0, .int .i64 0, .slice none 0 0] 82)) (Obj.cells #[] 126))
  have R0 := Lib.hid (blk_alloc (blk_new2 w (Obj.cells #[.string par, .string part, .int .i64 qty, .int .i64 fr, .int .i64 un, .slice eA en ec] 82) (Obj.cells #[.string ⟨#[]⟩, .string ⟨#[]⟩, .int .i64 0, .int .i64 0, .int .i64 0, .slice none 0 0] 82)) (Obj.cells #[] 126))
  have b0 := below_then (below_then (below_box w (Obj.cells #[.string par, .string part, .int .i64 qty, .int .i64 fr, .int .i64 un, .slice eA en ec] 82)) (below_box _ (Obj.cells #[.string ⟨#[]⟩, .string ⟨#[]⟩, .int .i64 0, .int .i64 0, .int .i64 0, .slice none 0 0] 82))) (below_box _ (Obj.cells #[] 126))
  have E0 := own_empty ((w.alloc (Obj.cells #[.string par, .string part, .int .i64 qty, .int .i64 fr, .int .i64 un, .slice eA en ec] 82)).alloc (Obj.cells #[.string ⟨#[]⟩, .string ⟨#[]⟩, .int .i64 0, .int .i64 0, .int .i64 0, .slice none 0 0] 82)) (w.heap.size + 2) 126 3 (by simp)
  simp only [World.size_alloc] at E0
  go_enter Try.func71, Try.ntmps71
  go_wp2_with (at_builtin; refine wpList_app _ rfl _ _ _ rfl (w.heap.size + 2) 126 i0 _ 3 40 Try.underlying80 hi hz0 hz1 hz2 rfl (by omega) _ 0 [] rfl E0 eA en ec (cond.flatMap cnCell) rfl (hr.below b0) (flat_one_cell cnCell_one _) (by unfold maxLen; omega) (by omega) (by simp) ?_; intro A2 c2 w2 o2 g2 at2 b2; simp only [Nat.zero_add] at o2; have X2 := Lib.hid ((b2.block w.heap.size (by omega)).trans X0.out); have R2 := Lib.hid ((b2.block (w.heap.size + 1) (by omega)).trans R0.out); have BF := Lib.hid (b0.trans (b2.mono (by omega))); have x0 := blk_at X2.out (j := 0) rfl; have x1 := blk_at X2.out (j := 1) rfl; have x2 := blk_at X2.out (j := 2) rfl; have x3 := blk_at X2.out (j := 3) rfl; have x4 := blk_at X2.out (j := 4) rfl; have x5 := blk_at X2.out (j := 5) rfl; have xf := blk_free X2.out; have r0 := blk_at R2.out (j := 0) rfl; have r1 := blk_at R2.out (j := 1) rfl; have r2 := blk_at R2.out (j := 2) rfl; have r3 := blk_at R2.out (j := 3) rfl; have r4 := blk_at R2.out (j := 4) rfl; have r5 := blk_at R2.out (j := 5) rfl; have rf := blk_free R2.out; clear g2 at2 b2)
  refine bodyPost_ret (v := blAgg ⟨par, part, qty, fr, un, A2, en, c2⟩) (by simp [results, Try.results71, go_sem, r0, r1, r2, r3, r4, r5]) rfl ⟨A2, c2, rfl, ?_, ?_⟩
  · refine own_base ?_ (show w.heap.size ≤ w.heap.size + 2 by omega)
    repeat (refine own_setlow ?_ (by simp only; omega) _)
    exact o2
  · repeat (refine Below.setCell ?_ (by simp only; omega) _)
    exact BF.out
set_option maxRecDepth 100000 in
set_option maxHeartbeats 8000000 in
theorem implInForce (A : Option Addr) (n c : Nat) (l : List Bl) (day : Int) (B : Option Addr) (m d : Nat) (ch : List Pk) (w : World) (hr : BillsR w A n l) (hn : n ≤ 24) (hg : ∀ x ∈ l, isCond x.cond = true) (hok : ∀ x ∈ l, billOk x) (hrp : RS w 2 B m (ch.flatMap pkCell)) (hm : m ≤ 9223372036854775807) :
    Calls Try.prog 51 #[.slice A n c, .int .i64 day, .slice B m d] w fun e w' => ∃ A' n' c', e = .returned (.slice A' n' c') ∧ LinesO w' w.heap.size A' n' c' (force l day ch) ∧ n' ≤ 24 ∧ Below w.heap.size w w' := by
  have hl := Lib.hid hr.len
  have OK := Lib.hid hok; have HG := Lib.hid hg
  clear hok hg
  obtain ⟨i0, hi, hz0, hz1, hz2⟩ := info_parts blInfo
  have L0 : LinesO (w.alloc (Obj.cells #[] 82)) w.heap.size (some ⟨w.heap.size, 0, none⟩) 0 0 [] := ⟨[], own_empty w w.heap.size 82 6 (Nat.le_refl _), rfl, by simp⟩
  have B0 := below_box w (Obj.cells #[] 82)
  go_enter Try.func51, Try.ntmps51
  go_wp2_with fail
  go_loopw [7, 13] (fun st i wr => ∃ (k : Nat) (A' : Option Addr) (q c' : Nat), k ≤ n ∧ i = .int .i64 k ∧ st = .slice A' q c' ∧ q ≤ k ∧ LinesO wr w.heap.size A' q c' ((l.take k).filter (lineOn day ch)) ∧ Below w.heap.size w wr) (fun _ i _ => n - (intOf i).toNat)
  case atStart => exact ⟨0, _, 0, 0, Nat.zero_le _, rfl, rfl, Nat.le_refl _, by simpa using L0, B0⟩
  case round =>
    obtain ⟨k, A', q, c', hk, rfl, rfl, hqk, hL, hb⟩ := hrel
    clear L0 B0
    have hz := hb.size
    by_cases hlt : k < n
    · obtain ⟨g, off, rfl, ⟨par, part, qty, fr, un, cond⟩, eA, en, ec, hx, c0, c1, c2, c3, c4, c5, hre⟩ := (hr.below hb).blAt hlt
      simp only at c0 c1 c2 c3 c4 hre
      have hic := HG.out _ (List.mem_of_getElem? hx)
      have COK := Lib.hid (show ∀ y ∈ cond, cnOk y from (OK.out _ (List.mem_of_getElem? hx)).2.2.2.2.2.2)
      have FT := Lib.hid (filter_take (p := lineOn day ch) hx)
      have cl := hre.flatLen cnCell_len (by omega)
      simp only at hic
      have en30 : en ≤ 30 := by
        have h := hic
        simp only [isCond, Bool.and_eq_true, decide_eq_true_eq] at h
        omega
      have HIC := Lib.hid hic
      clear hic cl hx
      have i1 : (0 : Int) ≤ k := by omega
      have i2 : (k : Int) < n := by omega
      obtain ⟨U, hU⟩ : ∃ U, U = wr.alloc (Obj.cells #[.string par, .string part, .int .i64 qty, .int .i64 fr, .int .i64 un, .slice eA en ec] 82) := ⟨_, rfl⟩
      have XU := Lib.hid (show U.heap[wr.heap.size]? = some (Obj.cells #[.string par, .string part, .int .i64 qty, .int .i64 fr, .int .i64 un, .slice eA en ec] 82 (0, 0)) by rw [hU]; exact blk_new1 _ _)
      have BU := Lib.hid (show Below w.heap.size w U by rw [hU]; exact hb.alloc hz _)
      have RU := Lib.hid (show RS U 3 eA en (cond.flatMap cnCell) by rw [hU]; exact hre.alloc _)
      have LU := Lib.hid (show LinesO U w.heap.size A' q c' ((l.take k).filter (lineOn day ch)) by rw [hU]; exact hL.below (below_box _ _))
      clear hb hre hL
      go_upto_region 5 with fail
      rw [← hU]
      obtain ⟨xb, hxb⟩ : ∃ xb, xb = wr.heap.size := ⟨_, rfl⟩
      rw [← hxb] at XU ⊢
      clear hxb
      clear hU c0 c1 c2 c3 c4 c5
      have x3 := blk_at XU.out (j := 3) rfl; have x4 := blk_at XU.out (j := 4) rfl; have x5 := blk_at XU.out (j := 5) rfl
      by_cases h1 : fr ≤ day
      rotate_left
      · have OFF : (l.take (k + 1)).filter (lineOn day ch) = (l.take k).filter (lineOn day ch) := by rw [FT.out]; simp [lineOn, h1]
        go_wp2_with fail
        go_roundw
        case rel => exact ⟨k + 1, A', q, c', by omega, by go_num, rfl, by omega, by rw [OFF]; exact LU.out, BU.out⟩
        case measure => simp [intOf]; omega
      by_cases h2 : day ≤ un
      rotate_left
      · have OFF : (l.take (k + 1)).filter (lineOn day ch) = (l.take k).filter (lineOn day ch) := by rw [FT.out]; simp [lineOn, h2]
        go_wp2_with fail
        go_roundw
        case rel => exact ⟨k + 1, A', q, c', by omega, by go_num, rfl, by omega, by rw [OFF]; exact LU.out, BU.out⟩
        case measure => simp [intOf]; omega
      have ON := Lib.hid (on_yes (ch := ch) (x := ⟨par, part, qty, fr, un, cond⟩) h1 h2)
      simp only at ON
      go_wp2_with fail
      refine (implHolds eA en ec cond B m d ch U RU.out (by omega) COK.out (hrp.below BU.out) hm).mono ?_; rw [holds_of HIC.out]; rintro e w2 ⟨rfl, h2b⟩
      have X2 := Lib.hid (blk_keep h2b XU.out)
      have B2 := Lib.hid (below_app BU.out h2b BU.out.size)
      have R2 := Lib.hid (RU.out.below h2b)
      have L2 := Lib.hid (LU.out.below h2b)
      clear h2b XU BU RU LU x3 x4 x5
      cases hev : evalC ch cond
      · have OFF : (l.take (k + 1)).filter (lineOn day ch) = (l.take k).filter (lineOn day ch) := by rw [FT.out, ON.out, hev]; simp
        go_wp2_with fail
        go_roundw
        case rel => exact ⟨k + 1, A', q, c', by omega, by go_num, rfl, by omega, by rw [OFF]; exact L2.out, B2.out⟩
        case measure => simp [intOf]; omega
      · have ONN := Lib.hid (show (l.take (k + 1)).filter (lineOn day ch) = (l.take k).filter (lineOn day ch) ++ [⟨par, part, qty, fr, un, cond⟩] by rw [FT.out, ON.out, hev]; simp)
        have y0 := blk_at X2.out (j := 0) rfl; have y1 := blk_at X2.out (j := 1) rfl; have y2 := blk_at X2.out (j := 2) rfl; have y3 := blk_at X2.out (j := 3) rfl; have y4 := blk_at X2.out (j := 4) rfl; have y5 := blk_at X2.out (j := 5) rfl
        clear hev
        go_wp2_with fail
        refine (implCopyLine ⟨par, part, qty, fr, un, cond⟩ eA en ec w2 R2.out (by omega)).mono ?_; rintro e w3 ⟨C, cc, rfl, oc, h3b⟩
        simp only at oc
        obtain ⟨vs, o1, hvl, h3⟩ := L2.out.below h3b
        have B3 := Lib.hid (below_app B2.out h3b B2.out.size)
        have bx := below_box w3 (Obj.cells #[.string par, .string part, .int .i64 qty, .int .i64 fr, .int .i64 un, .slice C en cc] 82)
        have OB := o1.alloc (Obj.cells #[.string par, .string part, .int .i64 qty, .int .i64 fr, .int .i64 un, .slice C en cc] 82)
        have OC := Lib.hid (own_base (own_below oc bx) (show w.heap.size ≤ w2.heap.size from B2.out.size))
        have H3 := Lib.hid (fun (i : Nat) (x : BV) (d : Bl) (hx : vs[i]? = some x) (hd : ((l.take k).filter (lineOn day ch))[i]? = some d) => (show SameFlat x d ∧ (w3.alloc (Obj.cells #[.string par, .string part, .int .i64 qty, .int .i64 fr, .int .i64 un, .slice C en cc] 82)).ownsRow w.heap.size 126 3 (bvRow x) x.en (d.cond.flatMap cnCell) from let ⟨a, b⟩ := h3 i x d hx hd; ⟨a, own_below b bx⟩))
        have VL := Lib.hid hvl
        have zz := B3.out.size
        clear oc h3b h3 hvl y0 y1 y2 y3 y4 y5 o1 L2 R2
        go_wp2_with (at_builtin; refine wpList_app _ rfl _ _ _ rfl w.heap.size 82 i0 _ 6 80 Try.underlying40 hi hz0 hz1 hz2 rfl (by omega) _ q (vs.flatMap blCell) rfl OB _ 1 1 (blCell ⟨par, part, qty, fr, un, C, en, cc⟩) rfl (RS_new (by simp)) (blCell_one _) (by unfold maxLen; omega) (by omega) (by simp; omega) ?_; intro A4 c4 w4 o4 g4 at4 b4)
        have LN := Lib.hid (lines_snoc (x := ⟨par, part, qty, fr, un, C, en, cc⟩) (d := ⟨par, part, qty, fr, un, cond⟩) OB VL.out H3.out ⟨rfl, rfl, rfl, rfl, rfl⟩ OC.out g4 o4)
        have BN := Lib.hid ((below_then B3.out bx).trans b4)
        clear o4 g4 at4 b4 OB OC H3 VL bx
        go_roundw
        case rel => exact ⟨k + 1, A4, q + 1, c4, by omega, by go_num, rfl, by omega, by rw [ONN.out]; exact LN.out, BN.out⟩
        case measure => simp [intOf]; omega
    · obtain rfl : n = k := by omega
      have TA : l.take n = l := List.take_of_length_le (by rw [hl.out]; exact Nat.le_refl _)
      rw [TA] at hL
      clear TA
      go_wp2_with fail
      go_ret
      exact ⟨A', q, c', rfl, hL, by omega, hb⟩
end Go.Proofs.Ytnhkpdaogclfjaa
