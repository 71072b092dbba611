/- FnExactBookEvent returns true for all arguments, and leaves them as they were. No condition. -/
import Derived.Test.YtlgodbjbllpipaaBkQ
import Derived.Deep.RegionHeld3
import Derived.Test.YtlgodbjbllpipaaBkP
import Derived.Test.YtlgodbjbllpipaaBkBookS
import Derived.Test.YtlgodbjbllpipaaCopyBkS
namespace Go.Proofs.Ytlgodbjbllpipaa
open Go.ChangeShapes Go.WideShapes Go.ChangeAt Go.RowKit

/-! ### marks of shelves -/
def mkIs (k0 : Int) (m : Nat) : List Int := (List.range m).map fun (j : Nat) => k0 + j
theorem mkIs_len (k0 : Int) (m : Nat) : (mkIs k0 m).length = m := by simp [mkIs]
theorem mkIs_cells (k0 : Int) (m : Nat) : intCells (mkIs k0 m) = marks k0 m := by simp [intCells, mkIs, marks]
def mkLs (k0 : Int) (m : Nat) : List Lay := (List.range m).map fun (j : Nat) => ⟨k0 + (j : Int) * 3, k0 + (j : Int) * 3 + 1, k0 + (j : Int) * 3 + 2⟩
theorem mkLs_len (k0 : Int) (m : Nat) : (mkLs k0 m).length = m := by simp [mkLs]
theorem mkLs_cells (k0 : Int) (m : Nat) : layCells (mkLs k0 m) = marks k0 (m * 3) := by
  induction m with
  | zero => rfl
  | succ m ih =>
    have e : mkLs k0 (m + 1) = mkLs k0 m ++ [⟨k0 + (m : Int) * 3, k0 + (m : Int) * 3 + 1, k0 + (m : Int) * 3 + 2⟩] := by simp [mkLs, List.range_succ]
    rw [e, layCells_append, ih, show (m + 1) * 3 = m * 3 + 1 + 1 + 1 by omega, marks_succ, marks_succ, marks_succ]
    simp [layCells, Int.add_assoc]
def shWt (s : Shf) : Int := 1 + s.ids.length + s.lays.length * 3
theorem shWt_nonneg (s : Shf) : 0 ≤ shWt s := by unfold shWt; omega
def kSh (k0 : Int) (ss : List Shf) (k : Nat) : Int := k0 + sumF shWt ss k
theorem kSh_zero (k0 : Int) (ss : List Shf) : kSh k0 ss 0 = k0 := by simp [kSh, sumF_zero]
theorem kSh_succ (k0 : Int) {ss : List Shf} {k : Nat} {s : Shf} (h : ss[k]? = some s) : kSh k0 ss (k + 1) = kSh k0 ss k + 1 + s.ids.length + s.lays.length * 3 := by
  unfold kSh; rw [sumF_succ _ h]; simp only [shWt]; omega
theorem kSh_mono (k0 : Int) {ss : List Shf} {k n : Nat} (h : k ≤ n) (hn : n ≤ ss.length) : k0 ≤ kSh k0 ss k ∧ kSh k0 ss k ≤ kSh k0 ss n := by
  have := sumF_mono (f := shWt) (l := ss) (fun x _ => shWt_nonneg x) h hn
  have := sumF_nonneg (f := shWt) (l := ss) (fun x _ => shWt_nonneg x) k
  unfold kSh; omega
def markSh (k0 : Int) (ss : List Shf) (i : Nat) (s : Shf) : Shf := ⟨mText (kSh k0 ss i).toNat, mkIs (kSh k0 ss i + 1) s.ids.length, mkLs (kSh k0 ss i + 1 + s.ids.length) s.lays.length⟩
def markShs (k0 : Int) (ss : List Shf) (k : Nat) : List Shf := ss.mapIdx fun i s => if i < k then markSh k0 ss i s else s
theorem markShs_len (k0 : Int) (ss : List Shf) (k : Nat) : (markShs k0 ss k).length = ss.length := by simp [markShs]
theorem markShs_zero (k0 : Int) (ss : List Shf) : markShs k0 ss 0 = ss := by
  apply List.ext_getElem?; intro i; simp [markShs, List.getElem?_mapIdx]
theorem markShs_at (k0 : Int) {ss : List Shf} {k i : Nat} {s : Shf} (h : ss[i]? = some s) : (markShs k0 ss k)[i]? = some (if i < k then markSh k0 ss i s else s) := by
  simp [markShs, List.getElem?_mapIdx, h]
theorem markShs_succ (k0 : Int) {ss : List Shf} {k : Nat} {s : Shf} (h : ss[k]? = some s) : (markShs k0 ss k).set k (markSh k0 ss k s) = markShs k0 ss (k + 1) := by
  apply List.ext_getElem?; intro i
  by_cases hik : i = k
  · subst hik
    have := (List.getElem?_eq_some_iff.1 h).1
    rw [List.getElem?_set, if_pos rfl, if_pos (by rw [markShs_len]; exact this), markShs_at k0 h, if_pos (by omega)]
  · rw [List.getElem?_set_ne (Ne.symm hik)]
    simp only [markShs, List.getElem?_mapIdx]
    have : i < k ↔ i < k + 1 := by omega
    simp only [this]

/-! ### a shelf marked in its place -/
theorem ShelvesO.turn {w : World} {lo hi n c k : Nat} {A : Option Addr} {ss : List Shf} {rest : List Row} (h : ShelvesO w lo hi (.slice A n c) n ss rest) (hk : k < n) :
    ∃ g, A = some ⟨g, 0, none⟩ ∧ lo ≤ g ∧ g < hi ∧ g < w.heap.size ∧ (∀ j, w.frozen? ⟨g, j, none⟩ = false) ∧ ∃ (s : Shf) (iA : Option Addr) (iC : Nat) (lA : Option Addr) (lC : Nat), ss[k]? = some s ∧
      w.cell? ⟨g, k * 3, none⟩ = some (.string s.item) ∧ w.cell? ⟨g, k * 3 + 1, none⟩ = some (.slice iA s.ids.length iC) ∧ w.cell? ⟨g, k * 3 + 2, none⟩ = some (.slice lA s.lays.length lC) ∧
      ∀ (item : ByteArray), (w.setCell ⟨g, k * 3, none⟩ (.string item)).ownsRow lo 3 1 (.slice iA s.ids.length iC) s.ids.length (intCells s.ids) ∧
        ∀ (w2 : World) (ids' : List Int), (w.setCell ⟨g, k * 3, none⟩ (.string item)).grownBy w2 (Value.slice iA s.ids.length iC).ownBlock → w2.ownsRow lo 3 1 (.slice iA s.ids.length iC) s.ids.length (intCells ids') →
          w2.cell? ⟨g, k * 3 + 2, none⟩ = some (.slice lA s.lays.length lC) ∧ w2.ownsRow lo 61 3 (.slice lA s.lays.length lC) s.lays.length (layCells s.lays) ∧
          ∀ (w3 : World) (lays' : List Lay), w2.grownBy w3 (Value.slice lA s.lays.length lC).ownBlock → w3.ownsRow lo 61 3 (.slice lA s.lays.length lC) s.lays.length (layCells lays') →
            ShelvesO w3 lo hi (.slice A n c) n (ss.set k ⟨item, ids', lays'⟩) rest ∧ Within lo hi w w3 := by
  have hl := h.len
  obtain ⟨vs, ⟨h1, h2⟩, h3⟩ := h
  have hd : ss[k]? = some ss[k] := List.getElem?_eq_getElem (by omega)
  have hx : vs[k]? = some vs[k] := List.getElem?_eq_getElem (by omega)
  have o0 : w.ownsRow lo 59 3 (.slice A n c) n (vs.flatMap svCell) := h3.get (r := ⟨59, 3, .slice A n c, n, vs.flatMap svCell⟩) (by simp [shRows])
  obtain ⟨g, rfl, hg1, hg2, hc, hf⟩ := own_addr o0 (by omega)
  have hhi : g < hi := (h3.1 ⟨59, 3, .slice (some ⟨g, 0, none⟩) n c, n, vs.flatMap svCell⟩ (by simp [shRows])).2 g rfl
  have e1 := h2 k _ _ hx hd
  have rows : ∀ r0 : Row, ∀ l : List Row, l = shRows (.slice (some ⟨g, 0, none⟩) n c) n vs ss ++ rest → (l.set 0 r0)[k + 1]? = some (idRow vs[k] ss[k]) ∧ ∀ r1 : Row, ((l.set 0 r0).set (k + 1) r1)[n + k + 1]? = some (layRow vs[k] ss[k]) := by
    intro r0 l e
    subst e
    constructor
    · simp only [shRows, List.cons_append, List.set_cons_zero, List.getElem?_cons_succ]
      rw [List.append_assoc, List.getElem?_append_left (by simp; omega)]
      exact zipWith_at hx hd
    · intro r1
      rw [List.getElem?_set_ne (by omega)]
      simp only [shRows, List.cons_append, List.set_cons_zero, List.getElem?_cons_succ]
      rw [List.append_assoc, List.getElem?_append_right (by simp; omega)]
      have : n + k - (List.zipWith idRow vs ss).length = k := by simp; omega
      rw [this, List.getElem?_append_left (by simp; omega)]
      exact zipWith_at hx hd
  have ri := (rows ⟨59, 3, .slice (some ⟨g, 0, none⟩) n c, n, vs.flatMap svCell⟩ _ rfl).1
  have oi := (h3.get (r := idRow vs[k] ss[k]) (by
    have := List.mem_of_getElem? (zipWith_at (f := idRow) hx hd)
    simp [shRows, this]))
  have ol := (h3.get (r := layRow vs[k] ss[k]) (by
    have := List.mem_of_getElem? (zipWith_at (f := layRow) hx hd)
    simp [shRows, this]))
  have il : ss[k].ids.length = vs[k].iN := RS.ints (RS.of_own (A := vs[k].iA) (c := vs[k].iC) oi)
  have ll : ss[k].lays.length = vs[k].lN := RS.lay (RS.of_own (A := vs[k].lA) (c := vs[k].lC) ol)
  have cc : ∀ j, j < 3 → w.cell? ⟨g, k * 3 + j, none⟩ = (svCell vs[k])[j]? := fun j hj => by
    rw [hc (k * 3 + j) (by omega)]
    exact flat_get svCell svCell_len vs k _ hx j hj
  refine ⟨g, rfl, hg1, hhi, hg2, hf, ss[k], vs[k].iA, vs[k].iC, vs[k].lA, vs[k].lC, hd, ?_, ?_, ?_, fun item => ?_⟩
  · rw [← e1]; exact cc 0 (by omega)
  · rw [il]; exact cc 1 (by omega)
  · rw [ll]; exact cc 2 (by omega)
  · rw [il, ll]
    have s1 := o0.stored (k * 3) (.string item)
    have f1 := flat_set svCell_len (l := vs) (k := k) (x := vs[k]) (x' := { vs[k] with item := item }) (j := 0) (u := .string item) (by omega) hx rfl
    rw [Nat.add_zero] at f1
    rw [f1] at s1
    have t1 := h3.turnIn (i := 0) (r := ⟨59, 3, .slice (some ⟨g, 0, none⟩) n c, n, vs.flatMap svCell⟩) rfl s1.2 s1.1 rfl
    have rr := rows ⟨59, 3, .slice (some ⟨g, 0, none⟩) n c, n, (vs.set k { vs[k] with item := item }).flatMap svCell⟩ _ rfl
    refine ⟨t1.get (List.mem_of_getElem? rr.1), fun w2 ids' hg2' ho2 => ?_⟩
    have t2 := t1.turnIn rr.1 hg2' ho2 rfl
    have rl := rr.2 ⟨3, 1, .slice vs[k].iA vs[k].iN vs[k].iC, vs[k].iN, intCells ids'⟩
    have o2 := t2.get (r := ⟨59, 3, .slice (some ⟨g, 0, none⟩) n c, n, (vs.set k { vs[k] with item := item }).flatMap svCell⟩) (List.mem_of_getElem? (i := 0) (by simp [shRows]))
    refine ⟨?_, t2.get (List.mem_of_getElem? rl), fun w3 lays' hg3 ho3 => ⟨⟨vs.set k { vs[k] with item := item }, ⟨by simp [h1], fun i x s hxi hsi => ?_⟩, ?_⟩, ?_⟩⟩
    · obtain ⟨g', hg', _, _, hc', _⟩ := own_addr o2 (by omega)
      injection hg' with hg'
      injection hg' with hg'
      subst hg'
      rw [hc' (k * 3 + 2) (show k * 3 + 2 < n * 3 by omega)]
      have := flat_get svCell svCell_len (vs.set k { vs[k] with item := item }) k { vs[k] with item := item } (by rw [List.getElem?_set]; simp; omega) 2 (by omega)
      exact this
    · by_cases hik : i = k
      · subst hik
        rw [List.getElem?_set] at hxi hsi
        simp at hxi hsi
        rw [← hxi.2, ← hsi.2]
      · rw [List.getElem?_set_ne (Ne.symm hik)] at hxi hsi
        exact h2 i x s hxi hsi
    · have t3 := t2.turnIn rl hg3 ho3 rfl
      refine Eq.mp (congrArg (Owns _ lo _) ?_) t3
      have z1 := zipWith_set idRow vs ss k { vs[k] with item := item } ⟨item, ids', lays'⟩
      have z2 := zipWith_set layRow vs ss k { vs[k] with item := item } ⟨item, ids', lays'⟩
      simp only [shRows]
      rw [z1, z2]
      simp only [List.cons_append, List.set_cons_succ, List.set_cons_zero]
      rw [List.append_assoc, List.set_append_left _ _ (by simp; omega), List.set_append_right _ _ (by simp; omega)]
      have e : ∀ r, n + k - ((List.zipWith idRow vs ss).set k r).length = k := by intro r; simp; omega
      rw [e, List.set_append_left _ _ (by simp; omega), List.append_assoc]
      rfl
    · have w1 : Within lo hi w (w.setCell ⟨g, k * 3, none⟩ (.string item)) := Within.of_grown (grown_set _ _ _) fun k' hk' => by injection hk' with hk'; simp only at hk'; omega
      exact (w1.trans (t1.within_of rr.1 hg2')).trans (t2.within_of rl hg3)

theorem markIntS_m (base : Nat) (A : Option Addr) (n c : Nat) (xs : List Value) (k0 : Int) (w : World) (ho : w.ownsRow base 3 1 (.slice A n c) n xs) (hn : n ≤ 1048600) (h0 : 1 ≤ k0) (h1 : k0 ≤ 100000000) :
    Calls Try.prog 90 #[.slice A n c, .int .i64 k0] w fun e w' => e = .returned (.int .i64 (k0 + n)) ∧ w'.ownsRow base 3 1 (.slice A n c) n (marks k0 n) ∧ w.grownBy w' (Value.slice A n c).ownBlock := by
  go_enter Try.func90, Try.ntmps90
  go_wp2
  go_loopw [1, 5] (fun kk i wr => ∃ k : Nat, k ≤ n ∧ i = .int .i64 k ∧ kk = .int .i64 (k0 + k) ∧ w.grownBy wr (Value.slice A n c).ownBlock ∧ ∃ xs, wr.ownsRow base 3 1 (.slice A n c) n xs ∧ Hid (xs.take k = marks k0 k)) (fun _ i _ => n - (intOf i).toNat)
  case atStart => exact ⟨0, Nat.zero_le _, rfl, by simp, World.grownBy.refl _ _, xs, ho, rfl⟩
  case round =>
    obtain ⟨k, hk, rfl, rfl, hg, xs, hown, htk⟩ := hrel
    by_cases hlt : k < n
    · obtain ⟨g, rfl, hgb, hgs, hc, hf⟩ := own_addr hown (by omega)
      have i1 : (0 : Int) ≤ k := by omega
      have i2 : (k : Int) < n := by omega
      obtain ⟨d0, hd0⟩ := own_cells hown (j := k) (by omega)
      clear hc
      go_wp2
      go_roundw
      case rel =>
        obtain ⟨ys, p, t⟩ := own_fill (.int .i64 (k0 + k)) hown htk.out rfl (by omega)
        exact ⟨k + 1, by omega, by go_num, by go_num, hg.trans (hown.stored k (.int .i64 (k0 + k))).2, ys, p, by rw [Hid, marks_succ]; exact t⟩
      case measure => simp [intOf]; omega
    · go_wp2
      have : k = n := by omega
      subst this
      go_ret
      refine ⟨rfl, ?_, hg⟩
      rw [← take_all htk.out (by have := own_len hown; omega)]
      exact hown
theorem heldIntS_m (A : Option Addr) (n c : Nat) (k0 : Int) (w : World) (hr : RS w 1 A n (marks k0 n)) (hn : n ≤ 1048600) (h0 : 1 ≤ k0) (h1 : k0 ≤ 100000000) :
    Calls Try.prog 93 #[.slice A n c, .int .i64 k0] w fun e w' => e = .returned (.int .i64 (k0 + n)) ∧ Below w.heap.size w w' := by
  go_enter Try.func93, Try.ntmps93
  go_wp2
  go_loopw [1, 5] (fun kk i wr => ∃ k : Nat, k ≤ n ∧ i = .int .i64 k ∧ kk = .int .i64 (k0 + k) ∧ Below w.heap.size w wr) (fun _ i _ => n - (intOf i).toNat)
  case atStart => exact ⟨0, Nat.zero_le _, rfl, by simp, Below.refl _ _⟩
  case round =>
    obtain ⟨k, hk, rfl, rfl, hb⟩ := hrel
    by_cases hlt : k < n
    · obtain ⟨g, off, rfl, c0⟩ := (hr.below hb).cell (i := 0) hlt (marks_at k0 (by omega))
      simp only [Nat.add_zero, Nat.mul_one] at c0
      go_wp2
      go_roundw
      case rel => exact ⟨k + 1, by omega, by go_num, by go_num, hb⟩
      case measure => simp [intOf]; omega
    · go_wp2
      have : k = n := by omega
      subst this
      go_ret
      exact ⟨rfl, hb⟩
set_option maxHeartbeats 4000000 in
theorem markShelfS_any (lo hi : Nat) (A : Option Addr) (n c : Nat) (ss : List Shf) (rest : List Row) (k0 : Int) (w : World) (ho : ShelvesO w lo hi (.slice A n c) n ss rest) (hn : n ≤ 1048600) (hsm : ∀ s ∈ ss, s.ids.length ≤ 1048600 ∧ s.lays.length ≤ 1048600) (h0 : 1 ≤ k0) (h2 : k0 ≤ 50000000) (h1 : kSh k0 ss n ≤ k0 + 8000000) :
    Calls Try.prog 61 #[.slice A n c, .int .i64 k0] w fun e w' => e = .returned (.int .i64 (kSh k0 ss n)) ∧ ShelvesO w' lo hi (.slice A n c) n (markShs k0 ss n) rest ∧ Within lo hi w w' := by
  have hl := Lib.hid ho.len
  have SM := Lib.hid hsm; clear hsm
  have MO := Lib.hid (fun k (hk : k ≤ n) => kSh_mono k0 (ss := ss) hk (by rw [hl.out]; exact Nat.le_refl _))
  go_enter Try.func61, Try.ntmps61
  go_wp2
  go_loopw [1, 5] (fun kk i wr => ∃ k : Nat, k ≤ n ∧ i = .int .i64 k ∧ kk = .int .i64 (kSh k0 ss k) ∧ Within lo hi w wr ∧ ShelvesO wr lo hi (.slice A n c) n (markShs k0 ss k) rest) (fun _ i _ => n - (intOf i).toNat)
  case atStart => exact ⟨0, Nat.zero_le _, rfl, by rw [kSh_zero], Within.refl _ _ _, by rw [markShs_zero]; exact ho⟩
  case round =>
    obtain ⟨k, hk, rfl, rfl, hw, hd⟩ := hrel
    by_cases hlt : k < n
    · have m1 := MO.out k (by omega)
      have i1 : (0 : Int) ≤ k := by omega
      have i2 : (k : Int) < n := by omega
      have MT := markText_any (kSh k0 ss k).toNat wr (by omega) (by omega)
      rw [Int.toNat_of_nonneg (by omega)] at MT
      go_wp2_with fail
      refine MT.mono ?_; rintro e w1 ⟨rfl, hb1⟩
      clear MT
      obtain ⟨g, rfl, hlo, hhi, hgs, hf, s, iA, iC, lA, lC, hx, c0, c1, c2, T⟩ := (hd.below hb1).turn hlt
      have hds : ss[k]? = some s := by
        have e := markShs_at k0 (ss := ss) (k := k) (i := k) (s := ss[k]'(by rw [hl.out]; exact hlt)) (List.getElem?_eq_getElem _)
        rw [hx, if_neg (Nat.lt_irrefl k)] at e
        injection e with e
        rw [e]; exact List.getElem?_eq_getElem _
      obtain ⟨sm1, sm2⟩ := SM.out s (List.mem_of_getElem? hds)
      have KS := Lib.hid (kSh_succ k0 hds)
      have MS := Lib.hid (markShs_succ k0 hds)
      have m2 := MO.out (k + 1) (by omega)
      rw [KS.out] at m2
      have W1 : Within lo hi wr w1 := Within.of_below hb1
      have MD := Lib.hid (show markSh k0 ss k s = ⟨mText (kSh k0 ss k).toNat, mkIs (kSh k0 ss k + 1) s.ids.length, mkLs (kSh k0 ss k + 1 + s.ids.length) s.lays.length⟩ from rfl)
      obtain ⟨o1, T2⟩ := T (mText (kSh k0 ss k).toNat)
      have TT := Lib.hid T2
      obtain ⟨im, him⟩ : ∃ im, s.ids.length = im := ⟨_, rfl⟩
      obtain ⟨lm, hlm⟩ : ∃ lm, s.lays.length = lm := ⟨_, rfl⟩
      rw [him] at c1 o1 TT MD KS sm1 m2
      rw [hlm] at c2 TT MD KS sm2 m2
      clear hx hds hd T T2 him hlm hb1
      go_wp2_with fail
      refine (markIntS_m lo _ _ _ _ _ _ o1 (by omega) (by omega) (by omega)).mono ?_; rintro e w2 ⟨rfl, o2, hg2⟩
      obtain ⟨c2', o3, T3⟩ := TT.out w2 (mkIs (kSh k0 ss k + 1) im) hg2 (by rw [mkIs_cells]; exact o2)
      have T3' := Lib.hid T3
      clear T3 TT c0 c1 c2 o1 o2 hg2
      go_wp2_with fail
      refine (markLayerS_any lo _ _ _ _ _ _ o3 (by omega) (by omega) (by omega)).mono ?_; rintro e w3 ⟨rfl, o4, hg3⟩
      obtain ⟨D2, W2⟩ := T3'.out w3 (mkLs (kSh k0 ss k + 1 + im) lm) hg3 (by rw [mkLs_cells]; exact o4)
      rw [← MD.out, MS.out] at D2
      clear o4 hg3 o3 c2' T3'
      go_wp2_with fail
      go_roundw
      case rel => exact ⟨k + 1, by omega, by go_num, by rw [KS.out], (hw.trans W1).trans W2, D2⟩
      case measure => simp [intOf]; omega
    · obtain rfl : n = k := by omega
      go_wp2
      go_ret
      exact ⟨rfl, hd, hw⟩
set_option maxHeartbeats 4000000 in
theorem heldShelfS_any (A : Option Addr) (n c : Nat) (ss : List Shf) (k0 : Int) (w : World) (hr : ShelvesR w A n (markShs k0 ss n)) (hn : n ≤ 1048600) (hsm : ∀ s ∈ ss, s.ids.length ≤ 1048600 ∧ s.lays.length ≤ 1048600) (h0 : 1 ≤ k0) (h2 : k0 ≤ 50000000) (h1 : kSh k0 ss n ≤ k0 + 8000000) :
    Calls Try.prog 63 #[.slice A n c, .int .i64 k0] w fun e w' => e = .returned (.int .i64 (kSh k0 ss n)) ∧ Below w.heap.size w w' := by
  have hl := Lib.hid (show ss.length = n by have := hr.len; rwa [markShs_len] at this)
  have SM := Lib.hid hsm; clear hsm
  have MO := Lib.hid (fun k (hk : k ≤ n) => kSh_mono k0 (ss := ss) hk (by rw [hl.out]; exact Nat.le_refl _))
  go_enter Try.func63, Try.ntmps63
  go_wp2
  go_loopw [1, 5] (fun kk i wr => ∃ k : Nat, k ≤ n ∧ i = .int .i64 k ∧ kk = .int .i64 (kSh k0 ss k) ∧ Below w.heap.size w wr) (fun _ i _ => n - (intOf i).toNat)
  case atStart => exact ⟨0, Nat.zero_le _, rfl, by rw [kSh_zero], Below.refl _ _⟩
  case round =>
    obtain ⟨k, hk, rfl, rfl, hb⟩ := hrel
    by_cases hlt : k < n
    · obtain ⟨g, off, rfl, x, iA, iN, iC, lA, lN, lC, hx, c0, c1, c2, hri, hrl⟩ := (hr.below hb).shAt hlt
      have hds : ss[k]? = some (ss[k]'(by rw [hl.out]; exact hlt)) := List.getElem?_eq_getElem _
      obtain ⟨sm1, sm2⟩ := SM.out _ (List.mem_of_getElem? hds)
      rw [markShs_at k0 hds, if_pos hlt] at hx
      injection hx with hx
      subst hx
      obtain ⟨im, him⟩ : ∃ m, (ss[k]'(by rw [hl.out]; exact hlt)).ids.length = m := ⟨_, rfl⟩
      obtain ⟨lm, hlm⟩ : ∃ m, (ss[k]'(by rw [hl.out]; exact hlt)).lays.length = m := ⟨_, rfl⟩
      have KS := Lib.hid (kSh_succ k0 hds)
      have hin := hri.ints; have hln := hrl.lay
      simp only [markSh, him, hlm, mkIs_len, mkLs_len] at c0 hri hrl hin hln
      rw [him] at sm1 KS
      rw [hlm] at sm2 KS
      subst hin hln
      have m1 := MO.out k (by omega)
      have m2 := MO.out (k + 1) (by omega)
      rw [KS.out] at m2
      have i1 : (0 : Int) ≤ k := by omega
      have i2 : (k : Int) < n := by omega
      rw [mkIs_cells] at hri
      rw [mkLs_cells] at hrl
      have MT := markText_any (kSh k0 ss k).toNat wr.drew (by omega) (by omega)
      rw [Int.toNat_of_nonneg (by omega)] at MT
      clear hds him hlm
      go_wp2_with fail
      go_region_held3 (fun w' => w'.cell? ⟨g, off + k * 3, none⟩ = some (.string (mText (kSh k0 ss k).toNat)) ∧ w'.cell? ⟨g, off + k * 3 + 1, none⟩ = some (.slice iA im iC) ∧ w'.cell? ⟨g, off + k * 3 + 2, none⟩ = some (.slice lA lm lC))
        (first
          | go_keep
          | (go_split_ands; exact ⟨cell_keep hb1 c0, cell_keep hb1 c1, cell_keep hb1 c2⟩))
        (first | (go_at_call 89; refine MT.mono ?_; rintro e w1 ⟨rfl, hb1⟩))
      have hb1 : Below wr.heap.size wr w1 := (Below.refl _ _).drew.trans hb1
      have d1 := cell_keep hb1 c1; have d2 := cell_keep hb1 c2
      have b1 := below_app hb hb1 hb.size
      have hri := hri.below hb1; have hrl := hrl.below hb1
      clear MT c0 c1 c2
      go_wp2_with fail
      refine (heldIntS_m _ _ _ _ _ hri (by omega) (by omega) (by omega)).mono ?_; rintro e w2 ⟨rfl, hb2⟩
      have d2 := cell_keep hb2 d2
      have b2 := below_app b1 hb2 b1.size
      have hrl := hrl.below hb2
      clear hb2
      go_wp2_with fail
      refine (heldLayerS_any _ _ _ _ _ hrl (by omega) (by omega) (by omega)).mono ?_; rintro e w3 ⟨rfl, hb3⟩
      have b3 := below_app b2 hb3 b2.size
      clear hb3
      go_wp2_with fail
      go_roundw
      case rel => exact ⟨k + 1, by omega, by go_num, by rw [KS.out], b3⟩
      case measure => simp [intOf]; omega
    · obtain rfl : n = k := by omega
      go_wp2
      go_ret
      exact ⟨rfl, hb⟩
/-! ### books -/
theorem BooksO.flip {w : World} {lo hi n m : Nat} {v v' : Value} {ss : List Shf} {ds : List Doc} (h : BooksO w lo hi v n ss v' m ds) : ∃ vs, ShFits vs ss ∧ DocsO w lo hi v' m ds (shRows v n vs ss) :=
  let ⟨us, h1, vs, h2, h3⟩ := h; ⟨vs, h2, us, h1, h3.perm List.perm_append_comm⟩
theorem BooksO.unflip {w : World} {lo hi n m : Nat} {v v' : Value} {vs : List SV} {ss : List Shf} {ds : List Doc} (h2 : ShFits vs ss) (h : DocsO w lo hi v' m ds (shRows v n vs ss)) : BooksO w lo hi v n ss v' m ds :=
  let ⟨us, h1, h3⟩ := h; ⟨us, h1, vs, h2, h3.perm List.perm_append_comm⟩
set_option maxHeartbeats 4000000 in
theorem markBooks_any (lo hi : Nat) (sA : Option Addr) (sn sc : Nat) (k : Int) (dA : Option Addr) (dn dc : Nat) (ss : List Shf) (ds : List Doc) (k0 : Int) (w : World) (ho : BooksO w lo hi (.slice sA sn sc) sn ss (.slice dA dn dc) dn ds) (hhi : hi ≤ w.heap.size) (hn : sn ≤ 1048600) (hm : dn ≤ 1048600)
    (hsm : ∀ s ∈ ss, s.ids.length ≤ 1048600 ∧ s.lays.length ≤ 1048600) (h0 : 1 ≤ k0) (h2 : k0 ≤ 1000) (h1 : kSh k0 ss sn ≤ k0 + 8000000) (h3 : kDoc (kSh k0 ss sn) ds dn ≤ kSh k0 ss sn + 2097200) :
    Calls Try.prog 27 #[.agg #[.slice sA sn sc, .int .i64 k, .slice dA dn dc], .int .i64 k0] w fun e w' => e = .returned (.int .i64 (kDoc (kSh k0 ss sn) ds dn)) ∧
      BooksO w' lo hi (.slice sA sn sc) sn (markShs k0 ss sn) (.slice dA dn dc) dn (markTo (kSh k0 ss sn) ds dn) ∧ Within lo hi w w' := by
  have b0 := Lib.hid (below_box w (Obj.cells #[.slice sA sn sc, .int .i64 k, .slice dA dn dc] 31))
  have X := Lib.hid (blk_new1 w (Obj.cells #[.slice sA sn sc, .int .i64 k, .slice dA dn dc] 31))
  have kl := (kSh_mono k0 (ss := ss) (k := sn) (n := sn) (Nat.le_refl _) (by rw [ho.shelves.len]; exact Nat.le_refl _)).1
  obtain ⟨us, hus, SO⟩ := ho.below b0.out
  go_enter Try.func27, Try.ntmps27
  go_wp2_with fail
  refine (markShelfS_any lo hi _ _ _ ss _ _ _ SO hn hsm h0 (by omega) h1).mono ?_; rintro e w1 ⟨rfl, O1, W1⟩
  have x2 := (World.cell?_of_block (a := ⟨w.heap.size, 2, none⟩) (W1.block w.heap.size (by simp) (by omega))).trans (blk_at X.out (j := 2) rfl)
  obtain ⟨vs, hvs, DO⟩ := BooksO.flip ⟨us, hus, O1⟩
  clear O1 SO
  go_wp2_with fail
  refine (markDocumentS_any lo hi _ _ _ ds _ _ _ DO hm (by omega) (by omega) h3).mono ?_; rintro e w2 ⟨rfl, O2, W2⟩
  go_wp2_with fail
  go_ret
  exact ⟨rfl, BooksO.unflip hvs O2, ((Within.of_below b0.out).trans W1).trans W2⟩
set_option maxHeartbeats 4000000 in
theorem heldBooks_any (sA : Option Addr) (sn sc : Nat) (k : Int) (dA : Option Addr) (dn dc : Nat) (ss : List Shf) (ds : List Doc) (k0 : Int) (w : World) (hr : ShelvesR w sA sn (markShs k0 ss sn)) (hd : DocsR w dA dn (markTo (kSh k0 ss sn) ds dn)) (hn : sn ≤ 1048600) (hm : dn ≤ 1048600)
    (hsm : ∀ s ∈ ss, s.ids.length ≤ 1048600 ∧ s.lays.length ≤ 1048600) (h0 : 1 ≤ k0) (h2 : k0 ≤ 1000) (h1 : kSh k0 ss sn ≤ k0 + 8000000) (h3 : kDoc (kSh k0 ss sn) ds dn ≤ kSh k0 ss sn + 2097200) :
    Calls Try.prog 28 #[.agg #[.slice sA sn sc, .int .i64 k, .slice dA dn dc], .int .i64 k0] w fun e w' => e = .returned (.int .i64 (kDoc (kSh k0 ss sn) ds dn)) ∧ Below w.heap.size w w' := by
  have b0 := Lib.hid (below_box w (Obj.cells #[.slice sA sn sc, .int .i64 k, .slice dA dn dc] 31))
  have X := Lib.hid (blk_new1 w (Obj.cells #[.slice sA sn sc, .int .i64 k, .slice dA dn dc] 31))
  have sl : ss.length = sn := by have := hr.len; rwa [markShs_len] at this
  have dl : ds.length = dn := by have := hd.len; rwa [markTo_len] at this
  have kl := (kSh_mono k0 (ss := ss) (k := sn) (n := sn) (Nat.le_refl _) (by rw [sl]; exact Nat.le_refl _)).1
  have kd := (kDoc_mono (kSh k0 ss sn) (ds := ds) (k := dn) (n := dn) (Nat.le_refl _) (by rw [dl]; exact Nat.le_refl _)).1
  clear sl dl
  have hr := hr.below b0.out; have hd := hd.below b0.out
  go_enter Try.func28, Try.ntmps28
  go_wp2_with fail
  refine (heldShelfS_any _ _ _ ss _ _ hr hn hsm h0 (by omega) h1).mono ?_; rintro e w1 ⟨rfl, hb1⟩
  have x2 := blk_at (blk_keep hb1 X.out) (j := 2) rfl
  have n1 : ¬ kSh k0 ss sn < 0 := by omega
  go_wp2_with fail
  refine (heldDocumentS_any _ _ _ ds _ _ (hd.below hb1) hm (by omega) (by omega) h3).mono ?_; rintro e w2 ⟨rfl, hb2⟩
  have n2 : ¬ kDoc (kSh k0 ss sn) ds dn < 0 := by omega
  go_wp2_with fail
  go_ret
  exact ⟨rfl, below_then (below_then b0.out hb1) hb2⟩
end Go.Proofs.Ytlgodbjbllpipaa
namespace Go.Proofs.Ytlgodbjbllpipaa
open Go.RowKit

structure BkFit (ss : List Shf) (ds : List Doc) : Prop where
  sn : ss.length ≤ 1048600
  dn : ds.length ≤ 1048600
  sh : ∀ s ∈ ss, s.item.size ≤ 9223372036854775807 ∧ s.ids.length ≤ 1048600 ∧ s.lays.length ≤ 1048600
  do_ : ∀ d ∈ ds, d.ents.length ≤ 1048600
  ks : ∀ k0, kSh k0 ss ss.length ≤ k0 + 8000000
  kd : ∀ k0, kDoc k0 ds ds.length ≤ k0 + 2097200
theorem kSh_bd {ss : List Shf} {M : Int} (h : ∀ s ∈ ss, shWt s ≤ M) (k0 : Int) : kSh k0 ss ss.length ≤ k0 + ss.length * M := by
  have := sumF_bd (f := shWt) (l := ss) (M := M) (fun x hx => by have := shWt_nonneg x; have := h x hx; omega) ss.length (Nat.le_refl _)
  unfold kSh; omega
theorem kDoc_bd2 {ds : List Doc} {M : Int} (h : ∀ d ∈ ds, docW d ≤ M) (k0 : Int) : kDoc k0 ds ds.length ≤ k0 + ds.length * M := by
  have := sumF_bd (f := docW) (l := ds) (M := M) (fun x hx => by have := docW_nonneg x; have := h x hx; omega) ds.length (Nat.le_refl _)
  unfold kDoc; omega
/-- Small by count. -/
theorem fit_few {ss : List Shf} {ds : List Doc} (h1 : ss.length ≤ 13) (h2 : ∀ s ∈ ss, s.item.size ≤ 9223372036854775807 ∧ s.ids.length ≤ 25 ∧ s.lays.length ≤ 25) (h3 : areDocs ds = true) : BkFit ss ds := by
  obtain ⟨d1, d2⟩ := areDocs_true h3
  have de : ∀ d ∈ ds, d.ents.length ≤ 12 := fun d hd => (areEntries_true (areDocs_ents h3 d hd)).2.2.2
  refine ⟨by omega, by omega, fun s hs => ?_, fun d hd => by have := de d hd; omega, fun k0 => ?_, fun k0 => ?_⟩
  · have := h2 s hs; omega
  · have := kSh_bd (ss := ss) (M := 101) (fun s hs => by have := h2 s hs; unfold shWt; omega) k0
    have : (ss.length : Int) * 101 ≤ 13 * 101 := by omega
    omega
  · have := kDoc_bd2 (ds := ds) (M := 26) (fun d hd => by have := de d hd; unfold docW; omega) k0
    omega
/-- Small by size. -/
theorem fit_size {ss : List Shf} {ds : List Doc} (h : bkSz ss.length ds.length ss ds ≤ 1048576) : BkFit ss ds := by
  obtain ⟨a, b, c, d⟩ := bk_small rfl rfl h
  have k1 := sumF_nonneg (f := shSz) (l := ss) (fun x _ => shSz_nonneg x) ss.length
  have k2 := sumF_nonneg (f := docSz) (l := ds) (fun x _ => docSz_nonneg x) ds.length
  unfold bkSz at h
  refine ⟨by omega, by omega, fun s hs => by have := c s hs; omega, fun x hx => by have := d x hx; omega, fun k0 => ?_, fun k0 => ?_⟩
  · have key : ∀ k, k ≤ ss.length → sumF shWt ss k ≤ k + 3 * sumF shSz ss k := by
      intro k
      induction k with
      | zero => intro _; simp [sumF_zero]
      | succ k ih =>
        intro hk
        have hx : ss[k]? = some ss[k] := List.getElem?_eq_getElem (by omega)
        rw [sumF_succ _ hx, sumF_succ _ hx]
        have := ih (by omega)
        have e1 : shWt ss[k] = 1 + ss[k].ids.length + ss[k].lays.length * 3 := rfl
        have e2 : shSz ss[k] = ss[k].item.size + (ss[k].ids.length + ss[k].lays.length : Int) := rfl
        omega
    have := key ss.length (Nat.le_refl _)
    unfold kSh; omega
  · exact (kDoc_bd k0 rfl (by omega)).1
theorem shsOk_few {ss : List Shf} (h : shsOk ss = true) (hi : ∀ s ∈ ss, s.item.size ≤ 9223372036854775807) : ∀ s ∈ ss, s.item.size ≤ 9223372036854775807 ∧ s.ids.length ≤ 24 ∧ s.lays.length ≤ 24 := fun s hs => by
  obtain ⟨_, h2, h3⟩ := shsOk_at h hs
  exact ⟨hi s hs, by omega, h3⟩
theorem shGet_few {ss : List Shf} (h : shsOk ss = true) (item : ByteArray) : (shGet ss item).ids.length ≤ 24 ∧ (shGet ss item).lays.length ≤ 24 := by
  rcases shelfAt_cases ss item with ⟨h0, _⟩ | ⟨k, x, h0, hx, he, _⟩
  · simp [shGet, h0]
  · rw [shGet_at h0 hx]
    obtain ⟨_, h2, h3⟩ := shsOk_at h (List.mem_of_getElem? hx)
    omega
theorem set_few {P : Shf → Prop} {ss : List Shf} {k : Nat} {x : Shf} (h : ∀ s ∈ ss, P s) (hx : P x) : ∀ s ∈ ss.set k x, P s := fun s hs => by
  rcases List.mem_or_eq_of_mem_set hs with hm | rfl
  · exact h s hm
  · exact hx
theorem postB_docs {ss : List Shf} {k : Int} {ds : List Doc} {day : Int} {es : List En} (h : areDocs ds = true) (h0 : (postB ss k ds day es).1 = 0) : (postB ss k ds day es).2 = ⟨ss, k, bkPostDs ds day es⟩ ∧ areDocs (bkPostDs ds day es) = true := by
  unfold postB at h0 ⊢
  split at h0
  · next hp =>
    rw [if_pos hp]
    refine ⟨rfl, ?_⟩
    unfold bkPostOk at hp
    unfold bkPostDs
    cases hn : (nz es).isEmpty
    · rw [hn, Bool.false_or] at hp; simpa using hp
    · simpa using h
  · cases h0
/-- What the shelves are behind a booking. -/
theorem bookB_few {b : Bk} {e : Ev} (h : shsOk b.ss = true) (hi : ∀ s ∈ b.ss, s.item.size ≤ 9223372036854775807) (he : e.item.size ≤ 9223372036854775807) (hd : areDocs b.ds = true) (h0 : (bookB b e).1 = 0) : BkFit (bookB b e).2.ss (bookB b e).2.ds := by
  have few := shsOk_few h hi
  have g := shGet_few h e.item
  have l12 := shsOk_len h
  have fi : ∀ (x : List Lay) , x.length ≤ 24 → ∀ k, ∀ s ∈ b.ss.set k ⟨e.item, (shGet b.ss e.item).ids, x⟩, s.item.size ≤ 9223372036854775807 ∧ s.ids.length ≤ 25 ∧ s.lays.length ≤ 25 := fun x hx k =>
    set_few (fun s hs => by have := few s hs; omega) ⟨he, by simp only; omega, by simp only; omega⟩
  have fr : ∀ s ∈ recvSs b.ss e.item e.q e.a e.id, s.item.size ≤ 9223372036854775807 ∧ s.ids.length ≤ 25 ∧ s.lays.length ≤ 25 := by
    refine set_few (fun s hs => ?_) ⟨he, by simp; omega, by simp [recvL]; omega⟩
    unfold insSs at hs
    split at hs
    · rcases List.mem_append.1 hs with hm | hm
      · have := few s (List.mem_of_mem_take hm); omega
      · rcases List.mem_cons.1 hm with rfl | hm
        · exact ⟨he, by simp, by simp⟩
        · have := few s (List.mem_of_mem_drop hm); omega
    · have := few s hs; omega
  have lr : (recvSs b.ss e.item e.q e.a e.id).length ≤ 13 := by
    rw [recvSs, List.length_set, insSs_len]; split <;> omega
  have ii := fi (issueOut (shGet b.ss e.item).lays e.q) (issueOut_len _ _) (shelfAt b.ss e.item).toNat
  have il := fi (lateOut (shGet b.ss e.item).lays (lateIx b.ss e.item e.r) e.a) (lateOut_len _ _ _) (shelfAt b.ss e.item).toNat
  unfold bookB at h0 ⊢
  split at h0
  · next hk =>
    rw [if_pos hk]
    unfold bookBuy at h0 ⊢
    split at h0
    · next hr =>
      rw [if_pos hr]
      obtain ⟨e1, e2⟩ := postB_docs hd h0
      rw [e1]
      exact fit_few lr fr e2
    · cases h0
  · next hk =>
    rw [if_neg hk]
    split at h0
    · next hk2 =>
      rw [if_pos hk2]
      unfold bookMake at h0 ⊢
      split at h0
      · cases h0
      · next hm =>
        rw [if_neg hm]
        split at h0
        · next hr =>
          rw [if_pos hr]
          obtain ⟨e1, e2⟩ := postB_docs hd h0
          rw [e1]
          exact fit_few lr fr e2
        · cases h0
    · next hk2 =>
      rw [if_neg hk2]
      split at h0
      · next hk3 =>
        rw [if_pos hk3]
        unfold bookIss at h0 ⊢
        split at h0
        · next hr =>
          rw [if_pos hr]
          split at h0
          · cases h0
          · next hm =>
            rw [if_neg hm]
            obtain ⟨e1, e2⟩ := postB_docs hd h0
            rw [e1]
            exact fit_few (by rw [issSs, List.length_set]; omega) ii e2
        · cases h0
      · next hk3 =>
        rw [if_neg hk3]
        split at h0
        · next hk4 =>
          rw [if_pos hk4]
          unfold bookSell at h0 ⊢
          split at h0
          · next hr =>
            rw [if_pos hr]
            obtain ⟨e1, e2⟩ := postB_docs hd h0
            rw [e1]
            exact fit_few (by rw [issSs, List.length_set]; omega) ii e2
          · cases h0
        · next hk4 =>
          rw [if_neg hk4]
          unfold bookLate at h0 ⊢
          split at h0
          · next hr =>
            rw [if_pos hr]
            obtain ⟨e1, e2⟩ := postB_docs hd h0
            rw [e1]
            exact fit_few (by rw [lateSs, List.length_set]; omega) il e2
          · next hr => exact absurd h0 hr
theorem bookEv_fit {b : Bk} {e : Ev} (hs : bkSz b.ss.length b.ds.length b.ss b.ds ≤ 1048576) (he : e.item.size ≤ 9223372036854775807) : BkFit (bookEv b e).2.ss (bookEv b e).2.ds := by
  unfold bookEv
  split
  · next h =>
    rw [Bool.and_eq_true] at h
    split
    · next h0 =>
      have ha := h.1
      simp only [areBk, Bool.and_eq_true] at ha
      exact bookB_few (areBk_shs h.1) (fun s hm => ((fit_size hs).sh s hm).1) he ha.2.2.2 h0
    · exact fit_size hs
  · exact fit_size hs
end Go.Proofs.Ytlgodbjbllpipaa
namespace Go.Proofs.Ytlgodbjbllpipaa
open Go.ChangeShapes Go.WideShapes Go.ChangeAt Go.RowKit

set_option maxRecDepth 100000 in
set_option maxHeartbeats 8000000 in
theorem implBookEv (sA : Option Addr) (sn sc : Nat) (k : Int) (dA : Option Addr) (dn dc : Nat) (ss : List Shf) (ds : List Doc) (e : Ev) (w : World) (hr : ShelvesR w sA sn ss) (hd : DocsR w dA dn ds) (hn : sn ≤ 1048600) (hm : dn ≤ 1048600) (hss : shsSmall ss) (hds : docsSmall ds) (he : e.item.size ≤ 9223372036854775807) :
    Calls Try.prog 26 #[.agg #[.slice sA sn sc, .int .i64 k, .slice dA dn dc], evAgg e] w fun r w' => ∃ A n c D m d, r = .returned (.tuple #[.agg #[.slice A n c, .int .i64 (bookEv ⟨ss, k, ds⟩ e).2.k, .slice D m d], .int .i64 (bookEv ⟨ss, k, ds⟩ e).1]) ∧
      BooksO w' w.heap.size w'.heap.size (.slice A n c) n (bookEv ⟨ss, k, ds⟩ e).2.ss (.slice D m d) m (bookEv ⟨ss, k, ds⟩ e).2.ds ∧ Below w.heap.size w w' := by
  have SS := Lib.hid hss; have DS := Lib.hid hds
  have S2 := Lib.hid (fun s hs => (hss s hs).2); have D2 := Lib.hid (fun d hd => (hds d hd).1)
  clear hss hds
  obtain ⟨id, day, kind, item, eq, ea, er⟩ := e
  simp only at he
  have b0 := Lib.hid (below_then (below_then (below_box w (Obj.cells #[.slice sA sn sc, .int .i64 k, .slice dA dn dc] 31)) (below_box _ (Obj.cells #[.int .i64 id, .int .i64 day, .int .i64 kind, .string item, .int .i64 eq, .int .i64 ea, .int .i64 er] 44))) (below_box _ (Obj.cells #[.slice none 0 0, .int .i64 0, .slice none 0 0] 31)))
  have Q := Lib.hid (blk_alloc (blk_alloc (blk_new1 w (Obj.cells #[.slice sA sn sc, .int .i64 k, .slice dA dn dc] 31)) (Obj.cells #[.int .i64 id, .int .i64 day, .int .i64 kind, .string item, .int .i64 eq, .int .i64 ea, .int .i64 er] 44)) (Obj.cells #[.slice none 0 0, .int .i64 0, .slice none 0 0] 31))
  have E := Lib.hid (blk_alloc (blk_new2 w (Obj.cells #[.slice sA sn sc, .int .i64 k, .slice dA dn dc] 31) (Obj.cells #[.int .i64 id, .int .i64 day, .int .i64 kind, .string item, .int .i64 eq, .int .i64 ea, .int .i64 er] 44)) (Obj.cells #[.slice none 0 0, .int .i64 0, .slice none 0 0] 31))
  have Z := Lib.hid (blk_new3 w (Obj.cells #[.slice sA sn sc, .int .i64 k, .slice dA dn dc] 31) (Obj.cells #[.int .i64 id, .int .i64 day, .int .i64 kind, .string item, .int .i64 eq, .int .i64 ea, .int .i64 er] 44) (Obj.cells #[.slice none 0 0, .int .i64 0, .slice none 0 0] 31))
  go_enter Try.func26, Try.ntmps26
  go_wp2_with fail
  have WS : (((w.alloc (Obj.cells #[.slice sA sn sc, .int .i64 k, .slice dA dn dc] 31)).alloc (Obj.cells #[.int .i64 id, .int .i64 day, .int .i64 kind, .string item, .int .i64 eq, .int .i64 ea, .int .i64 er] 44)).alloc (Obj.cells #[.slice none 0 0, .int .i64 0, .slice none 0 0] 31)).heap.size = w.heap.size + 1 + 1 + 1 := by simp
  generalize ((w.alloc (Obj.cells #[.slice sA sn sc, .int .i64 k, .slice dA dn dc] 31)).alloc (Obj.cells #[.int .i64 id, .int .i64 day, .int .i64 kind, .string item, .int .i64 eq, .int .i64 ea, .int .i64 er] 44)).alloc (Obj.cells #[.slice none 0 0, .int .i64 0, .slice none 0 0] 31) = W at *
  replace WS := Lib.hid WS
  have hrW := hr.below b0.out; have hdW := hd.below b0.out
  refine (implCopyBk _ _ _ k _ _ _ ss ds W hrW hdW hn hm S2.out D2.out).mono ?_; rintro r w1 ⟨A1, c1, D1, d1, rfl, O1, hb1⟩
  have Q1 := Lib.hid (blk_keep hb1 Q.out); have E1 := Lib.hid (blk_keep hb1 E.out); have Z1 := Lib.hid (blk_keep hb1 Z.out)
  have y0 := blk_at Q1.out (j := 0) rfl
  clear y0
  go_upto_region 2 with fail
  obtain ⟨U, hU⟩ : ∃ U, U = w1.alloc (Obj.cells #[.slice A1 sn c1, .int .i64 k, .slice D1 dn d1] 31) := ⟨_, rfl⟩
  have bU := Lib.hid (show Below w1.heap.size w1 U by rw [hU]; exact below_box _ _)
  have QU := Lib.hid (blk_keep bU.out Q1.out); have EU := Lib.hid (blk_keep bU.out E1.out); have ZU := Lib.hid (blk_keep bU.out Z1.out)
  have VU := Lib.hid (show U.heap[w1.heap.size]? = some (Obj.cells #[.slice A1 sn c1, .int .i64 k, .slice D1 dn d1] 31 (0, 0)) by rw [hU]; exact blk_new1 _ _)
  have HU := Lib.hid (show BkO U W.heap.size w1.heap.size ss k ds from ⟨A1, sn, c1, D1, dn, d1, VU.out, hb1.size, (O1.below bU.out).top⟩)
  have OU := Lib.hid (O1.below bU.out).top
  have zU : W.heap.size ≤ U.heap.size := Nat.le_trans hb1.size bU.out.size
  have WL : w.heap.size + 1 + 1 < W.heap.size := by rw [WS.out]; omega
  have BU := Lib.hid (b0.out.trans ((hb1.trans (bU.out.mono hb1.size)).mono (by omega)))
  rw [← hU]
  obtain ⟨q, hq⟩ : ∃ q, q = w1.heap.size := ⟨_, rfl⟩
  rw [← hq] at VU HU ⊢
  clear hU Q1 E1 Z1 O1 hb1 bU Q E Z hrW hdW hq
  have x0 := blk_at QU.out (j := 0) rfl; have x1 := blk_at QU.out (j := 1) rfl; have x2 := blk_at QU.out (j := 2) rfl
  cases hA : areBk ss k ds
  · have R := Lib.hid (show bookEv ⟨ss, k, ds⟩ ⟨id, day, kind, item, eq, ea, er⟩ = (1, ⟨ss, k, ds⟩) by simp [bookEv, hA])
    have HA := Lib.hid hA; clear hA
    go_wp2_with fail
    refine (implAreBooks _ _ _ k _ _ _ ss ds U (hr.below BU.out) (hd.below BU.out) hn hm SS.out DS.out).mono ?_; rw [HA.out]; rintro r w2 ⟨rfl, hb2⟩
    have V2 := Lib.hid (blk_keep hb2 VU.out); have Z2 := Lib.hid (blk_keep hb2 ZU.out)
    have B2 := Lib.hid (below_app BU.out hb2 BU.out.size)
    have O2 := Lib.hid (OU.out.below hb2).top
    clear x0 x1 x2 hb2
    have v0 := blk_at V2.out (j := 0) rfl; have v1 := blk_at V2.out (j := 1) rfl; have v2 := blk_at V2.out (j := 2) rfl
    have z0 := blk_at Z2.out (j := 0) rfl; have z1 := blk_at Z2.out (j := 1) rfl; have z2 := blk_at Z2.out (j := 2) rfl; have zf := blk_free Z2.out
    go_wp2_with fail
    rw [R.out]
    refine bodyPost_ret (v := .tuple #[.agg #[.slice A1 sn c1, .int .i64 k, .slice D1 dn d1], .int .i64 1]) (by simp [results, Try.results26, go_sem, z0, z1, z2]) rfl ⟨A1, sn, c1, D1, dn, d1, rfl, ?_, below_out3 B2.out (by omega) _ _ _⟩
    exact (BooksO.out3 O2.out Z2.out _ _ _).top.mono (by omega) (Nat.le_refl _)
  · have HA := Lib.hid hA; clear hA
    cases hE : isEvent ⟨id, day, kind, item, eq, ea, er⟩
    · have R := Lib.hid (show bookEv ⟨ss, k, ds⟩ ⟨id, day, kind, item, eq, ea, er⟩ = (1, ⟨ss, k, ds⟩) by simp [bookEv, HA.out, hE])
      have HE := Lib.hid hE; clear hE
      go_wp2_with fail
      refine (implAreBooks _ _ _ k _ _ _ ss ds U (hr.below BU.out) (hd.below BU.out) hn hm SS.out DS.out).mono ?_; rw [HA.out]; rintro r w2 ⟨rfl, hb2⟩
      have V2 := Lib.hid (blk_keep hb2 VU.out); have Z2 := Lib.hid (blk_keep hb2 ZU.out); have E2 := Lib.hid (blk_keep hb2 EU.out)
      have B2 := Lib.hid (below_app BU.out hb2 BU.out.size)
      have O2 := Lib.hid (OU.out.below hb2).top
      clear x0 x1 x2 hb2
      obtain ⟨y0, y1, y2, y3, y4, y5, y6⟩ := evCells (e := ⟨id, day, kind, item, eq, ea, er⟩) E2.out
      simp only at y0 y1 y2 y3 y4 y5 y6
      go_wp2_with fail
      refine (implIsEvent ⟨id, day, kind, item, eq, ea, er⟩ _ he).mono ?_; rw [HE.out]; rintro r w3 ⟨rfl, hb3⟩
      clear y0 y1 y2 y3 y4 y5 y6
      have V3 := Lib.hid (blk_keep hb3 V2.out); have Z3 := Lib.hid (blk_keep hb3 Z2.out)
      have B3 := Lib.hid (below_app B2.out hb3 B2.out.size)
      have O3 := Lib.hid (O2.out.below hb3).top
      clear hb3
      have v0 := blk_at V3.out (j := 0) rfl; have v1 := blk_at V3.out (j := 1) rfl; have v2 := blk_at V3.out (j := 2) rfl
      have z0 := blk_at Z3.out (j := 0) rfl; have z1 := blk_at Z3.out (j := 1) rfl; have z2 := blk_at Z3.out (j := 2) rfl; have zf := blk_free Z3.out
      go_wp2_with fail
      rw [R.out]
      refine bodyPost_ret (v := .tuple #[.agg #[.slice A1 sn c1, .int .i64 k, .slice D1 dn d1], .int .i64 1]) (by simp [results, Try.results26, go_sem, z0, z1, z2]) rfl ⟨A1, sn, c1, D1, dn, d1, rfl, ?_, below_out3 B3.out (by omega) _ _ _⟩
      exact (BooksO.out3 O3.out Z3.out _ _ _).top.mono (by omega) (Nat.le_refl _)
    · have HE := Lib.hid hE; clear hE
      by_cases hc : (bookB ⟨ss, k, ds⟩ ⟨id, day, kind, item, eq, ea, er⟩).1 = 0
      all_goals
        have HC := Lib.hid hc; clear hc
        go_wp2_with fail
        refine (implAreBooks _ _ _ k _ _ _ ss ds U (hr.below BU.out) (hd.below BU.out) hn hm SS.out DS.out).mono ?_; rw [HA.out]; rintro r w2 ⟨rfl, hb2⟩
        have Q2 := Lib.hid (blk_keep hb2 QU.out); have V2 := Lib.hid (blk_keep hb2 VU.out); have Z2 := Lib.hid (blk_keep hb2 ZU.out); have E2 := Lib.hid (blk_keep hb2 EU.out)
        have B2 := Lib.hid (below_app BU.out hb2 BU.out.size)
        have H2 := Lib.hid (HU.out.below hb2)
        have s2 : W.heap.size ≤ w2.heap.size := Nat.le_trans zU hb2.size
        clear x0 x1 x2 hb2
        obtain ⟨y0, y1, y2, y3, y4, y5, y6⟩ := evCells (e := ⟨id, day, kind, item, eq, ea, er⟩) E2.out
        simp only at y0 y1 y2 y3 y4 y5 y6
        go_wp2_with fail
        refine (implIsEvent ⟨id, day, kind, item, eq, ea, er⟩ _ he).mono ?_; rw [HE.out]; rintro r w3 ⟨rfl, hb3⟩
        clear y0 y1 y2 y3 y4 y5 y6
        have Q3 := Lib.hid (blk_keep hb3 Q2.out); have Z3 := Lib.hid (blk_keep hb3 Z2.out); have E3 := Lib.hid (blk_keep hb3 E2.out)
        have B3 := Lib.hid (below_app B2.out hb3 B2.out.size)
        have H3 := Lib.hid (H2.out.below hb3)
        have s3 : W.heap.size ≤ w3.heap.size := Nat.le_trans s2 hb3.size
        clear hb3
        obtain ⟨y0, y1, y2, y3, y4, y5, y6⟩ := evCells (e := ⟨id, day, kind, item, eq, ea, er⟩) E3.out
        simp only at y0 y1 y2 y3 y4 y5 y6
        go_wp2_with fail
        refine (implBookBk W.heap.size q ⟨ss, k, ds⟩ ⟨id, day, kind, item, eq, ea, er⟩ w3 H3.out s3 HA.out HE.out DS.out).mono ?_; rintro r w4 ⟨rfl, h4, hb4⟩
        clear y0 y1 y2 y3 y4 y5 y6
        have Q4 := Lib.hid ((hb4.block w.heap.size (by omega)).trans Q3.out); have Z4 := Lib.hid ((hb4.block (w.heap.size + 1 + 1) (by omega)).trans Z3.out)
        have B4 := Lib.hid (B3.out.trans (hb4.mono (by omega)))
        have z0 := blk_at Z4.out (j := 0) rfl; have z1 := blk_at Z4.out (j := 1) rfl; have z2 := blk_at Z4.out (j := 2) rfl; have zf := blk_free Z4.out
      · have R := Lib.hid (show bookEv ⟨ss, k, ds⟩ ⟨id, day, kind, item, eq, ea, er⟩ = (0, (bookB ⟨ss, k, ds⟩ ⟨id, day, kind, item, eq, ea, er⟩).2) by simp only [bookEv, HA.out, HE.out, Bool.and_self, if_true, HC.out]; exact Prod.ext HC.out rfl)
        obtain ⟨A, n, c, D, m, d, hq4, _, O4⟩ := h4 HC.out
        have O4' := Lib.hid O4; have V4 := Lib.hid hq4
        clear h4 hb4 O4 hq4
        rw [HC.out]
        obtain ⟨kk, hkk⟩ : ∃ kk, kk = (bookB ⟨ss, k, ds⟩ ⟨id, day, kind, item, eq, ea, er⟩).2.k := ⟨_, rfl⟩
        rw [← hkk] at V4
        have v0 := blk_at V4.out (j := 0) rfl; have v1 := blk_at V4.out (j := 1) rfl; have v2 := blk_at V4.out (j := 2) rfl
        have HK := Lib.hid hkk; clear hkk
        go_wp2_with fail
        rw [R.out]
        refine bodyPost_ret (v := .tuple #[.agg #[.slice A n c, .int .i64 kk, .slice D m d], .int .i64 0]) (by simp [results, Try.results26, go_sem, z0, z1, z2]) rfl ⟨A, n, c, D, m, d, by rw [HK.out], ?_, below_out3 B4.out (by omega) _ _ _⟩
        exact (BooksO.out3 O4'.out Z4.out _ _ _).top.mono (by omega) (Nat.le_refl _)
      · have R := Lib.hid (show bookEv ⟨ss, k, ds⟩ ⟨id, day, kind, item, eq, ea, er⟩ = ((bookB ⟨ss, k, ds⟩ ⟨id, day, kind, item, eq, ea, er⟩).1, ⟨ss, k, ds⟩) by simp only [bookEv, HA.out, HE.out, Bool.and_self, if_true, if_neg HC.out])
        clear h4 hb4 z0 z1 z2 zf
        obtain ⟨cd, hcd⟩ : ∃ cd, cd = (bookB ⟨ss, k, ds⟩ ⟨id, day, kind, item, eq, ea, er⟩).1 := ⟨_, rfl⟩
        rw [← hcd] at HC R ⊢
        have cn := HC.out
        clear hcd
        have x0 := blk_at Q4.out (j := 0) rfl; have x1 := blk_at Q4.out (j := 1) rfl; have x2 := blk_at Q4.out (j := 2) rfl
        go_wp2_with fail
        refine (implCopyBk _ _ _ k _ _ _ ss ds w4 (hr.below B4.out) (hd.below B4.out) hn hm S2.out D2.out).mono ?_; rintro r w5 ⟨A5, c5, D5, d5, rfl, O5, hb5⟩
        have Z5 := Lib.hid (blk_keep hb5 Z4.out)
        have B5 := Lib.hid (below_app B4.out hb5 B4.out.size)
        have O5' := Lib.hid O5
        have s5 := B4.out.size
        clear x0 x1 x2 O5 hb5
        have z0 := blk_at Z5.out (j := 0) rfl; have z1 := blk_at Z5.out (j := 1) rfl; have z2 := blk_at Z5.out (j := 2) rfl; have zf := blk_free Z5.out
        go_wp2_with fail
        rw [R.out]
        refine bodyPost_ret (v := .tuple #[.agg #[.slice A5 sn c5, .int .i64 k, .slice D5 dn d5], .int .i64 cd]) (by simp [results, Try.results26, go_sem, z0, z1, z2]) rfl ⟨A5, sn, c5, D5, dn, d5, rfl, ?_, below_out3 B5.out (by omega) _ _ _⟩
        exact (BooksO.out3 O5'.out Z5.out _ _ _).top.mono s5 (Nat.le_refl _)
set_option maxRecDepth 100000 in
set_option maxHeartbeats 8000000 in
theorem specBookEv (sA : Option Addr) (sn sc : Nat) (k : Int) (dA : Option Addr) (dn dc : Nat) (ss : List Shf) (ds : List Doc) (e : Ev) (w : World) (hr : ShelvesR w sA sn ss) (hd : DocsR w dA dn ds) (hn : sn ≤ 1048600) (hm : dn ≤ 1048600) (hss : shsSmall ss) (hds : docsSmall ds) (he : e.item.size ≤ 9223372036854775807) :
    Calls Try.prog 24 #[.agg #[.slice sA sn sc, .int .i64 k, .slice dA dn dc], evAgg e] w fun r w' => ∃ A n c D m d, r = .returned (.tuple #[.agg #[.slice A n c, .int .i64 (bookEv ⟨ss, k, ds⟩ e).2.k, .slice D m d], .int .i64 (bookEv ⟨ss, k, ds⟩ e).1]) ∧
      BooksO w' w.heap.size w'.heap.size (.slice A n c) n (bookEv ⟨ss, k, ds⟩ e).2.ss (.slice D m d) m (bookEv ⟨ss, k, ds⟩ e).2.ds ∧ Below w.heap.size w w' := by
  have SS := Lib.hid hss; have DS := Lib.hid hds
  have S2 := Lib.hid (fun s hs => (hss s hs).2); have D2 := Lib.hid (fun d hd => (hds d hd).1)
  clear hss hds
  obtain ⟨id, day, kind, item, eq, ea, er⟩ := e
  simp only at he
  have b0 := Lib.hid (below_then (below_then (below_box w (Obj.cells #[.slice sA sn sc, .int .i64 k, .slice dA dn dc] 31)) (below_box _ (Obj.cells #[.int .i64 id, .int .i64 day, .int .i64 kind, .string item, .int .i64 eq, .int .i64 ea, .int .i64 er] 44))) (below_box _ (Obj.cells #[.slice none 0 0, .int .i64 0, .slice none 0 0] 31)))
  have Q := Lib.hid (blk_alloc (blk_alloc (blk_new1 w (Obj.cells #[.slice sA sn sc, .int .i64 k, .slice dA dn dc] 31)) (Obj.cells #[.int .i64 id, .int .i64 day, .int .i64 kind, .string item, .int .i64 eq, .int .i64 ea, .int .i64 er] 44)) (Obj.cells #[.slice none 0 0, .int .i64 0, .slice none 0 0] 31))
  have E := Lib.hid (blk_alloc (blk_new2 w (Obj.cells #[.slice sA sn sc, .int .i64 k, .slice dA dn dc] 31) (Obj.cells #[.int .i64 id, .int .i64 day, .int .i64 kind, .string item, .int .i64 eq, .int .i64 ea, .int .i64 er] 44)) (Obj.cells #[.slice none 0 0, .int .i64 0, .slice none 0 0] 31))
  have Z := Lib.hid (blk_new3 w (Obj.cells #[.slice sA sn sc, .int .i64 k, .slice dA dn dc] 31) (Obj.cells #[.int .i64 id, .int .i64 day, .int .i64 kind, .string item, .int .i64 eq, .int .i64 ea, .int .i64 er] 44) (Obj.cells #[.slice none 0 0, .int .i64 0, .slice none 0 0] 31))
  go_enter Try.func24, Try.ntmps24
  have q0 := blk_at Q.out (j := 0) rfl
  clear q0
  go_upto_region 1 with fail
  have WS : (((w.alloc (Obj.cells #[.slice sA sn sc, .int .i64 k, .slice dA dn dc] 31)).alloc (Obj.cells #[.int .i64 id, .int .i64 day, .int .i64 kind, .string item, .int .i64 eq, .int .i64 ea, .int .i64 er] 44)).alloc (Obj.cells #[.slice none 0 0, .int .i64 0, .slice none 0 0] 31)).heap.size = w.heap.size + 1 + 1 + 1 := by simp
  generalize ((w.alloc (Obj.cells #[.slice sA sn sc, .int .i64 k, .slice dA dn dc] 31)).alloc (Obj.cells #[.int .i64 id, .int .i64 day, .int .i64 kind, .string item, .int .i64 eq, .int .i64 ea, .int .i64 er] 44)).alloc (Obj.cells #[.slice none 0 0, .int .i64 0, .slice none 0 0] 31) = W at *
  replace WS := Lib.hid WS
  have BU := b0
  have x0 := blk_at Q.out (j := 0) rfl; have x1 := blk_at Q.out (j := 1) rfl; have x2 := blk_at Q.out (j := 2) rfl
  cases hA : areBk ss k ds
  · have R := Lib.hid (show bookEv ⟨ss, k, ds⟩ ⟨id, day, kind, item, eq, ea, er⟩ = (1, ⟨ss, k, ds⟩) by simp [bookEv, hA])
    have HA := Lib.hid hA; clear hA
    go_wp2_with fail
    refine (specAreBooks _ _ _ k _ _ _ ss ds W (hr.below BU.out) (hd.below BU.out) hn hm SS.out DS.out).mono ?_; rw [HA.out]; rintro r w2 ⟨rfl, hb2⟩
    have Q2 := Lib.hid (blk_keep hb2 Q.out); have Z2 := Lib.hid (blk_keep hb2 Z.out)
    have B2 := Lib.hid (below_app BU.out hb2 BU.out.size)
    clear x0 x1 x2 hb2
    have x0 := blk_at Q2.out (j := 0) rfl; have x1 := blk_at Q2.out (j := 1) rfl; have x2 := blk_at Q2.out (j := 2) rfl
    go_wp2_with fail
    refine (specCopyBk _ _ _ k _ _ _ ss ds w2 (hr.below B2.out) (hd.below B2.out) hn hm S2.out D2.out).mono ?_; rintro r w5 ⟨A5, c5, D5, d5, rfl, O5, hb5⟩
    have Z5 := Lib.hid (blk_keep hb5 Z2.out)
    have B5 := Lib.hid (below_app B2.out hb5 B2.out.size)
    have O5' := Lib.hid O5
    have s5 := B2.out.size
    clear x0 x1 x2 O5 hb5
    have z0 := blk_at Z5.out (j := 0) rfl; have z1 := blk_at Z5.out (j := 1) rfl; have z2 := blk_at Z5.out (j := 2) rfl; have zf := blk_free Z5.out
    go_wp2_with fail
    rw [R.out]
    refine bodyPost_ret (v := .tuple #[.agg #[.slice A5 sn c5, .int .i64 k, .slice D5 dn d5], .int .i64 1]) (by simp [results, Try.results24, go_sem, z0, z1, z2]) rfl ⟨A5, sn, c5, D5, dn, d5, rfl, ?_, below_out3 B5.out (by omega) _ _ _⟩
    exact (BooksO.out3 O5'.out Z5.out _ _ _).top.mono s5 (Nat.le_refl _)
  · have HA := Lib.hid hA; clear hA
    cases hE : isEvent ⟨id, day, kind, item, eq, ea, er⟩
    · have R := Lib.hid (show bookEv ⟨ss, k, ds⟩ ⟨id, day, kind, item, eq, ea, er⟩ = (1, ⟨ss, k, ds⟩) by simp [bookEv, HA.out, hE])
      have HE := Lib.hid hE; clear hE
      go_wp2_with fail
      refine (specAreBooks _ _ _ k _ _ _ ss ds W (hr.below BU.out) (hd.below BU.out) hn hm SS.out DS.out).mono ?_; rw [HA.out]; rintro r w2 ⟨rfl, hb2⟩
      have Q2 := Lib.hid (blk_keep hb2 Q.out); have Z2 := Lib.hid (blk_keep hb2 Z.out); have E2 := Lib.hid (blk_keep hb2 E.out)
      have B2 := Lib.hid (below_app BU.out hb2 BU.out.size)
      clear x0 x1 x2 hb2
      obtain ⟨y0, y1, y2, y3, y4, y5, y6⟩ := evCells (e := ⟨id, day, kind, item, eq, ea, er⟩) E2.out
      simp only at y0 y1 y2 y3 y4 y5 y6
      go_wp2_with fail
      refine (specIsEvent ⟨id, day, kind, item, eq, ea, er⟩ _ he).mono ?_; rw [HE.out]; rintro r w3 ⟨rfl, hb3⟩
      clear y0 y1 y2 y3 y4 y5 y6
      have Q3 := Lib.hid (blk_keep hb3 Q2.out); have Z3 := Lib.hid (blk_keep hb3 Z2.out)
      have B3 := Lib.hid (below_app B2.out hb3 B2.out.size)
      clear hb3
      have x0 := blk_at Q3.out (j := 0) rfl; have x1 := blk_at Q3.out (j := 1) rfl; have x2 := blk_at Q3.out (j := 2) rfl
      go_wp2_with fail
      refine (specCopyBk _ _ _ k _ _ _ ss ds w3 (hr.below B3.out) (hd.below B3.out) hn hm S2.out D2.out).mono ?_; rintro r w5 ⟨A5, c5, D5, d5, rfl, O5, hb5⟩
      have Z5 := Lib.hid (blk_keep hb5 Z3.out)
      have B5 := Lib.hid (below_app B3.out hb5 B3.out.size)
      have O5' := Lib.hid O5
      have s5 := B3.out.size
      clear x0 x1 x2 O5 hb5
      have z0 := blk_at Z5.out (j := 0) rfl; have z1 := blk_at Z5.out (j := 1) rfl; have z2 := blk_at Z5.out (j := 2) rfl; have zf := blk_free Z5.out
      go_wp2_with fail
      rw [R.out]
      refine bodyPost_ret (v := .tuple #[.agg #[.slice A5 sn c5, .int .i64 k, .slice D5 dn d5], .int .i64 1]) (by simp [results, Try.results24, go_sem, z0, z1, z2]) rfl ⟨A5, sn, c5, D5, dn, d5, rfl, ?_, below_out3 B5.out (by omega) _ _ _⟩
      exact (BooksO.out3 O5'.out Z5.out _ _ _).top.mono s5 (Nat.le_refl _)
    · have HE := Lib.hid hE; clear hE
      go_wp2_with fail
      refine (specAreBooks _ _ _ k _ _ _ ss ds W (hr.below BU.out) (hd.below BU.out) hn hm SS.out DS.out).mono ?_; rw [HA.out]; rintro r w2 ⟨rfl, hb2⟩
      have Q2 := Lib.hid (blk_keep hb2 Q.out); have Z2 := Lib.hid (blk_keep hb2 Z.out); have E2 := Lib.hid (blk_keep hb2 E.out)
      have B2 := Lib.hid (below_app BU.out hb2 BU.out.size)
      clear x0 x1 x2 hb2
      obtain ⟨y0, y1, y2, y3, y4, y5, y6⟩ := evCells (e := ⟨id, day, kind, item, eq, ea, er⟩) E2.out
      simp only at y0 y1 y2 y3 y4 y5 y6
      go_wp2_with fail
      refine (specIsEvent ⟨id, day, kind, item, eq, ea, er⟩ _ he).mono ?_; rw [HE.out]; rintro r w3 ⟨rfl, hb3⟩
      clear y0 y1 y2 y3 y4 y5 y6
      have Q3 := Lib.hid (blk_keep hb3 Q2.out); have Z3 := Lib.hid (blk_keep hb3 Z2.out); have E3 := Lib.hid (blk_keep hb3 E2.out)
      have B3 := Lib.hid (below_app B2.out hb3 B2.out.size)
      clear hb3
      go_upto_region 3 with fail
      obtain ⟨u, hu⟩ : ∃ u, u = w3 := ⟨_, rfl⟩
      rw [← hu] at Q3 Z3 E3 B3 ⊢
      clear hu Q2 Z2 E2 B2 Q E Z b0 BU
      have NL : w.heap.size + 1 + 1 < u.heap.size := (Array.getElem?_eq_some_iff.1 Z3.out).1
      have sOf : ∀ v : World, v.heap[w.heap.size]? = some (Obj.cells #[.slice sA sn sc, .int .i64 k, .slice dA dn dc] 31 (0, 0)) → v.heap[w.heap.size + 1]? = some (Obj.cells #[.int .i64 id, .int .i64 day, .int .i64 kind, .string item, .int .i64 eq, .int .i64 ea, .int .i64 er] 44 (0, 0)) →
          (v.cell? ⟨w.heap.size, 0, none⟩ = some (.slice sA sn sc) ∧ v.cell? ⟨w.heap.size, 1, none⟩ = some (.int .i64 k) ∧ v.cell? ⟨w.heap.size, 2, none⟩ = some (.slice dA dn dc)) ∧
          v.cell? ⟨w.heap.size + 1, 0, none⟩ = some (.int .i64 id) ∧ v.cell? ⟨w.heap.size + 1, 1, none⟩ = some (.int .i64 day) ∧ v.cell? ⟨w.heap.size + 1, 2, none⟩ = some (.int .i64 kind) ∧ v.cell? ⟨w.heap.size + 1, 3, none⟩ = some (.string item) ∧ v.cell? ⟨w.heap.size + 1, 4, none⟩ = some (.int .i64 eq) ∧ v.cell? ⟨w.heap.size + 1, 5, none⟩ = some (.int .i64 ea) ∧ v.cell? ⟨w.heap.size + 1, 6, none⟩ = some (.int .i64 er) :=
        fun v h1 h2 => ⟨⟨blk_at h1 rfl, blk_at h1 rfl, blk_at h1 rfl⟩, evCells (e := ⟨id, day, kind, item, eq, ea, er⟩) h2⟩
      have SOF := Lib.hid sOf; clear sOf
      have ZB := Lib.hid (blk_new1 u (Obj.cells #[.slice none 0 0, .int .i64 0, .slice none 0 0] 31))
      have bA := Lib.hid (below_box u (Obj.cells #[.slice none 0 0, .int .i64 0, .slice none 0 0] 31))
      refine wp_region_cut (S := fun v => (v.cell? ⟨w.heap.size, 0, none⟩ = some (.slice sA sn sc) ∧ v.cell? ⟨w.heap.size, 1, none⟩ = some (.int .i64 k) ∧ v.cell? ⟨w.heap.size, 2, none⟩ = some (.slice dA dn dc)) ∧
          v.cell? ⟨w.heap.size + 1, 0, none⟩ = some (.int .i64 id) ∧ v.cell? ⟨w.heap.size + 1, 1, none⟩ = some (.int .i64 day) ∧ v.cell? ⟨w.heap.size + 1, 2, none⟩ = some (.int .i64 kind) ∧ v.cell? ⟨w.heap.size + 1, 3, none⟩ = some (.string item) ∧ v.cell? ⟨w.heap.size + 1, 4, none⟩ = some (.int .i64 eq) ∧ v.cell? ⟨w.heap.size + 1, 5, none⟩ = some (.int .i64 ea) ∧ v.cell? ⟨w.heap.size + 1, 6, none⟩ = some (.int .i64 er)) 9 (by kernel_rfl) (by kernel_rfl) (by simp only [List.pop_toArray, List.dropLast_cons_cons, List.dropLast_singleton]; rfl) (SOF.out u Q3.out E3.out) (fun hHeld => ?_)
      refine wpAnyH_take (i := 0) (oi := ?_) (v := ?_) (by simp only [List.getElem?_toArray, List.getElem?_cons_zero]; rfl) (by kernel_rfl) (by kernel_rfl) (by kernel_rfl) ?_ (Or.inl ⟨by rfl, ?_⟩) hHeld ?_
      rotate_left 1
      focus exact CutPost.panic fun _ _ _ h => h
      focus (intro w hSw; (try dsimp only at hSw); go_simp; try with_reducible rfl)
      (try simp only [Act.put, List.setIfInBounds_toArray, List.set_cons_zero, List.set_cons_succ])
      refine wpAnyH_take (i := 2) (oi := ?_) (v := ?_) (by simp only [List.getElem?_toArray, List.getElem?_cons_succ, List.getElem?_cons_zero]; rfl) (by kernel_rfl) (by kernel_rfl) (by kernel_rfl) ?_ (Or.inl ⟨by rfl, ?_⟩) hHeld ?_
      rotate_left 1
      focus exact CutPost.panic fun _ _ _ h => h
      focus (intro w hSw; (try dsimp only at hSw); go_simp; try with_reducible rfl)
      (try simp only [Act.put, List.setIfInBounds_toArray, List.set_cons_zero, List.set_cons_succ])
      have NW : w.heap.size ≤ u.heap.size := by omega
      refine wpAnyH_ready (rs := [1, 7]) (by kernel_rfl) (by simp) ?_
      refine AllReadyH.cons (o := ?_) (by simp only [List.getElem?_toArray, List.getElem?_cons_succ, List.getElem?_cons_zero]; rfl) (fun K hK => ?_) (AllReadyH.cons (o := ?_) (by simp only [List.getElem?_toArray, List.getElem?_cons_succ, List.getElem?_cons_zero]; rfl) (fun K hK => ?_) AllReadyH.nil)
      focus
        go_simp
        (go_at_call 56; refine (specCopyBk _ _ _ k _ _ _ ss ds _ (hr.below (B3.out.trans ((Below.refl u.heap.size u).drew.mono NW))) (hd.below (B3.out.trans ((Below.refl u.heap.size u).drew.mono NW))) hn hm S2.out D2.out).mono ?_; rintro r v1 ⟨A1, c1, D1, d1, rfl, O1, h1⟩)
        go_wp2_with fail
        have B1 := Lib.hid (show Below u.heap.size u v1 from (Below.refl _ _).drew.trans h1)
        have O1' := Lib.hid (show BooksO v1 u.heap.size v1.heap.size _ _ _ _ _ _ from O1)
        have Qa := Lib.hid (blk_keep B1.out Q3.out); have Ea := Lib.hid (blk_keep B1.out E3.out); have Za := Lib.hid (blk_keep B1.out Z3.out)
        clear h1 O1
        refine hK.out _ _ (SOF.out v1 Qa.out Ea.out) (fun hHeld => ?_)
        clear hK K
        (try simp only [Act.put, List.setIfInBounds_toArray, List.set_cons_zero, List.set_cons_succ])
        refine wpAnyH_ready (rs := [3, 7]) (by kernel_rfl) (by simp) ?_
        refine AllReadyH.cons (o := ?_) (by simp only [List.getElem?_toArray, List.getElem?_cons_succ, List.getElem?_cons_zero]; rfl) (fun K hK => ?_) (AllReadyH.cons (o := ?_) (by simp only [List.getElem?_toArray, List.getElem?_cons_succ, List.getElem?_cons_zero]; rfl) (fun K hK => ?_) AllReadyH.nil)
        focus
          go_simp
          (go_at_call 57; refine (specBookBk (u.heap.size) _ A1 sn c1 D1 dn d1 ⟨ss, k, ds⟩ ⟨id, day, kind, item, eq, ea, er⟩ _ O1'.out (B1.out.size) HA.out HE.out DS.out).mono ?_; rintro r v2 ⟨A, n, c, kk, D, m, d, rfl, h2, hb2, hk2⟩)
          go_wp2_with fail
          have Qb := Lib.hid (hk2 _ _ _ (.inr ⟨rfl, by simp⟩) Qa.out); have Eb := Lib.hid (hk2 _ _ _ (.inl rfl) Ea.out); have Zb := Lib.hid (hk2 _ _ _ (.inr ⟨rfl, by simp⟩) Za.out)
          refine hK.out _ _ (SOF.out v2 Qb.out Eb.out) (fun hHeld => ?_)
          clear hK K
          (try simp only [Act.put, List.setIfInBounds_toArray, List.set_cons_zero, List.set_cons_succ])
          refine wpAnyH_take (i := 4) (oi := ?_) (v := ?_) (by simp only [List.getElem?_toArray, List.getElem?_cons_succ, List.getElem?_cons_zero]; rfl) (by kernel_rfl) (by kernel_rfl) (by kernel_rfl) ?_ (Or.inl ⟨by rfl, ?_⟩) hHeld ?_
          rotate_left 1
          focus exact CutPost.panic fun _ _ _ h => h
          focus (intro w hSw; (try dsimp only at hSw); go_simp; try with_reducible rfl)
          (try simp only [Act.put, List.setIfInBounds_toArray, List.set_cons_zero, List.set_cons_succ])
          refine wpAnyH_take (i := 5) (oi := ?_) (v := ?_) (by simp only [List.getElem?_toArray, List.getElem?_cons_succ, List.getElem?_cons_zero]; rfl) (by kernel_rfl) (by kernel_rfl) (by kernel_rfl) ?_ (Or.inl ⟨by rfl, ?_⟩) hHeld ?_
          rotate_left 1
          focus exact CutPost.panic fun _ _ _ h => h
          focus (intro w hSw; (try dsimp only at hSw); go_simp; try with_reducible rfl)
          (try simp only [Act.put, List.setIfInBounds_toArray, List.set_cons_zero, List.set_cons_succ])
          refine wpAnyH_take (i := 6) (oi := ?_) (v := ?_) (by simp only [List.getElem?_toArray, List.getElem?_cons_succ, List.getElem?_cons_zero]; rfl) (by kernel_rfl) (by kernel_rfl) (by kernel_rfl) ?_ (Or.inl ⟨by rfl, ?_⟩) hHeld ?_
          rotate_left 1
          focus exact CutPost.panic fun _ _ _ h => h
          focus (intro w hSw; (try dsimp only at hSw); go_simp; try with_reducible rfl)
          (try simp only [Act.put, List.setIfInBounds_toArray, List.set_cons_zero, List.set_cons_succ])
          refine wpAnyH_ready (rs := [7]) (by kernel_rfl) (by simp) ?_
          refine AllReadyH.cons (o := ?_) (by simp only [List.getElem?_toArray, List.getElem?_cons_succ, List.getElem?_cons_zero]; rfl) (fun K hK => ?_) AllReadyH.nil
          go_simp
          refine hK.out _ _ (SOF.out _ (blk_alloc Qb.out _) (blk_alloc Eb.out _)) (fun hHeld => ?_)
          clear hK K
          (try simp only [Act.put, List.setIfInBounds_toArray, List.set_cons_zero, List.set_cons_succ])
          obtain ⟨r9, hr9⟩ : ∃ r9, r9 = v2.heap.size := ⟨_, rfl⟩
          obtain ⟨U9, hU9⟩ : ∃ U9, U9 = v2.alloc (Obj.cells #[.slice none 0 0, .int .i64 0, .slice none 0 0] 31) := ⟨_, rfl⟩
          have R9 := Lib.hid (show U9.heap[r9]? = some (Obj.cells #[.slice none 0 0, .int .i64 0, .slice none 0 0] 31 (0, 0)) by rw [hU9, hr9]; exact blk_new1 _ _)
          have Q9 := Lib.hid (show U9.heap[w.heap.size]? = some (Obj.cells #[.slice sA sn sc, .int .i64 k, .slice dA dn dc] 31 (0, 0)) by rw [hU9]; exact blk_alloc Qb.out _); have E9 := Lib.hid (show U9.heap[w.heap.size + 1]? = some (Obj.cells #[.int .i64 id, .int .i64 day, .int .i64 kind, .string item, .int .i64 eq, .int .i64 ea, .int .i64 er] 44 (0, 0)) by rw [hU9]; exact blk_alloc Eb.out _); have Z9 := Lib.hid (show U9.heap[w.heap.size + 1 + 1]? = some (Obj.cells #[.slice none 0 0, .int .i64 0, .slice none 0 0] 31 (0, 0)) by rw [hU9]; exact blk_alloc Zb.out _)
          have rl9 : w.heap.size + 1 + 1 < r9 := by have := B1.out.size; have := hb2.size; omega
          have B9 := Lib.hid (show Below w.heap.size w U9 by rw [hU9]; exact ((B3.out.trans ((B1.out.trans hb2).mono NW))).alloc (by have := B1.out.size; have := hb2.size; omega) _)
          have H9 := Lib.hid (show (bookB ⟨ss, k, ds⟩ ⟨id, day, kind, item, eq, ea, er⟩).1 = 0 → kk = (bookB ⟨ss, k, ds⟩ ⟨id, day, kind, item, eq, ea, er⟩).2.k ∧ BooksO U9 w.heap.size U9.heap.size (.slice A n c) n (bookB ⟨ss, k, ds⟩ ⟨id, day, kind, item, eq, ea, er⟩).2.ss (.slice D m d) m (bookB ⟨ss, k, ds⟩ ⟨id, day, kind, item, eq, ea, er⟩).2.ds from fun h => ⟨(h2 h).1, by rw [hU9]; exact ((h2 h).2.below (below_box _ _)).top.mono NW (Nat.le_refl _)⟩)
          rw [← hU9] at hHeld
          rw [← hr9, ← hU9]
          clear hr9 hU9 h2 hb2 hk2 Qb Eb Zb O1' Qa Ea Za B1
        rotate_left 1
        focus
          go_simp
          refine hK.out _ _ (SOF.out _ (blk_alloc Qa.out _) (blk_alloc Ea.out _)) (fun hHeld => ?_)
          clear hK K
          (try simp only [Act.put, List.setIfInBounds_toArray, List.set_cons_zero, List.set_cons_succ])
          refine wpAnyH_ready (rs := [3]) (by kernel_rfl) (by simp) ?_
          refine AllReadyH.cons (o := ?_) (by simp only [List.getElem?_toArray, List.getElem?_cons_succ, List.getElem?_cons_zero]; rfl) (fun K hK => ?_) AllReadyH.nil
          go_simp
          (go_at_call 57; refine (specBookBk (u.heap.size) _ A1 sn c1 D1 dn d1 ⟨ss, k, ds⟩ ⟨id, day, kind, item, eq, ea, er⟩ _ (O1'.out.below (below_box v1 _)) (Nat.le_trans B1.out.size (below_box v1 _).size) HA.out HE.out DS.out).mono ?_; rintro r v2 ⟨A, n, c, kk, D, m, d, rfl, h2, hb2, hk2⟩)
          go_wp2_with fail
          obtain ⟨r9, hr9⟩ : ∃ r9, r9 = v1.heap.size := ⟨_, rfl⟩
          obtain ⟨U9, hU9⟩ : ∃ U9, U9 = v2 := ⟨_, rfl⟩
          have R9 := Lib.hid (show U9.heap[r9]? = some (Obj.cells #[.slice none 0 0, .int .i64 0, .slice none 0 0] 31 (0, 0)) by rw [hU9, hr9]; exact hk2 _ _ _ (.inr ⟨rfl, by simp⟩) (blk_new1 _ _))
          have Q9 := Lib.hid (show U9.heap[w.heap.size]? = some (Obj.cells #[.slice sA sn sc, .int .i64 k, .slice dA dn dc] 31 (0, 0)) by rw [hU9]; exact hk2 _ _ _ (.inr ⟨rfl, by simp⟩) (blk_alloc Qa.out _)); have E9 := Lib.hid (show U9.heap[w.heap.size + 1]? = some (Obj.cells #[.int .i64 id, .int .i64 day, .int .i64 kind, .string item, .int .i64 eq, .int .i64 ea, .int .i64 er] 44 (0, 0)) by rw [hU9]; exact hk2 _ _ _ (.inl rfl) (blk_alloc Ea.out _)); have Z9 := Lib.hid (show U9.heap[w.heap.size + 1 + 1]? = some (Obj.cells #[.slice none 0 0, .int .i64 0, .slice none 0 0] 31 (0, 0)) by rw [hU9]; exact hk2 _ _ _ (.inr ⟨rfl, by simp⟩) (blk_alloc Za.out _))
          have rl9 : w.heap.size + 1 + 1 < r9 := by have := B1.out.size; omega
          have B9 := Lib.hid (show Below w.heap.size w U9 by rw [hU9]; exact B3.out.trans (((B1.out.alloc B1.out.size _).trans hb2).mono NW))
          have H9 := Lib.hid (show (bookB ⟨ss, k, ds⟩ ⟨id, day, kind, item, eq, ea, er⟩).1 = 0 → kk = (bookB ⟨ss, k, ds⟩ ⟨id, day, kind, item, eq, ea, er⟩).2.k ∧ BooksO U9 w.heap.size U9.heap.size (.slice A n c) n (bookB ⟨ss, k, ds⟩ ⟨id, day, kind, item, eq, ea, er⟩).2.ss (.slice D m d) m (bookB ⟨ss, k, ds⟩ ⟨id, day, kind, item, eq, ea, er⟩).2.ds from fun h => ⟨(h2 h).1, by rw [hU9]; exact (h2 h).2.top.mono NW (Nat.le_refl _)⟩)
          refine hK.out _ _ (SOF.out _ (hU9 ▸ Q9.out) (hU9 ▸ E9.out)) (fun hHeld => ?_)
          clear hK K
          (try simp only [Act.put, List.setIfInBounds_toArray, List.set_cons_zero, List.set_cons_succ])
          refine wpAnyH_take (i := 4) (oi := ?_) (v := ?_) (by simp only [List.getElem?_toArray, List.getElem?_cons_succ, List.getElem?_cons_zero]; rfl) (by kernel_rfl) (by kernel_rfl) (by kernel_rfl) ?_ (Or.inl ⟨by rfl, ?_⟩) hHeld ?_
          rotate_left 1
          focus exact CutPost.panic fun _ _ _ h => h
          focus (intro w hSw; (try dsimp only at hSw); go_simp; try with_reducible rfl)
          (try simp only [Act.put, List.setIfInBounds_toArray, List.set_cons_zero, List.set_cons_succ])
          refine wpAnyH_take (i := 5) (oi := ?_) (v := ?_) (by simp only [List.getElem?_toArray, List.getElem?_cons_succ, List.getElem?_cons_zero]; rfl) (by kernel_rfl) (by kernel_rfl) (by kernel_rfl) ?_ (Or.inl ⟨by rfl, ?_⟩) hHeld ?_
          rotate_left 1
          focus exact CutPost.panic fun _ _ _ h => h
          focus (intro w hSw; (try dsimp only at hSw); go_simp; try with_reducible rfl)
          (try simp only [Act.put, List.setIfInBounds_toArray, List.set_cons_zero, List.set_cons_succ])
          refine wpAnyH_take (i := 6) (oi := ?_) (v := ?_) (by simp only [List.getElem?_toArray, List.getElem?_cons_succ, List.getElem?_cons_zero]; rfl) (by kernel_rfl) (by kernel_rfl) (by kernel_rfl) ?_ (Or.inl ⟨by rfl, ?_⟩) hHeld ?_
          rotate_left 1
          focus exact CutPost.panic fun _ _ _ h => h
          focus (intro w hSw; (try dsimp only at hSw); go_simp; try with_reducible rfl)
          (try simp only [Act.put, List.setIfInBounds_toArray, List.set_cons_zero, List.set_cons_succ])
          rw [← hU9] at hHeld
          rw [← hr9, ← hU9]
          clear hr9 hU9 h2 hb2 hk2 O1' Qa Ea Za B1
      rotate_left 2
      focus
        go_simp
        refine hK.out _ _ (SOF.out _ (blk_alloc (show u.drew.heap[w.heap.size]? = _ from Q3.out) _) (blk_alloc (show u.drew.heap[w.heap.size + 1]? = _ from E3.out) _)) (fun hHeld => ?_)
        clear hK K
        (try simp only [Act.put, List.setIfInBounds_toArray, List.set_cons_zero, List.set_cons_succ])
        refine wpAnyH_ready (rs := [1]) (by kernel_rfl) (by simp) ?_
        refine AllReadyH.cons (o := ?_) (by simp only [List.getElem?_toArray, List.getElem?_cons_succ, List.getElem?_cons_zero]; rfl) (fun K hK => ?_) AllReadyH.nil
        go_simp
        (go_at_call 56; refine (specCopyBk _ _ _ k _ _ _ ss ds _ (hr.below (B3.out.trans (((Below.refl u.heap.size u).drew.alloc (Nat.le_refl _) _).mono NW))) (hd.below (B3.out.trans (((Below.refl u.heap.size u).drew.alloc (Nat.le_refl _) _).mono NW))) hn hm S2.out D2.out).mono ?_; rintro r v1 ⟨A1, c1, D1, d1, rfl, O1, h1⟩)
        go_wp2_with fail
        have zs : u.heap.size + 1 ≤ v1.heap.size := Nat.le_trans (by simp) h1.size
        have B1 := Lib.hid (show Below u.heap.size u v1 from ((Below.refl u.heap.size u).drew.alloc (Nat.le_refl _) (Obj.cells #[.slice none 0 0, .int .i64 0, .slice none 0 0] 31)).trans (h1.mono (by simp)))
        have O1' := Lib.hid (show BooksO v1 (u.heap.size + 1) v1.heap.size _ _ _ _ _ _ by simpa using O1)
        have Qa := Lib.hid (blk_keep B1.out Q3.out); have Ea := Lib.hid (blk_keep B1.out E3.out); have Za := Lib.hid (blk_keep B1.out Z3.out)
        have Ra := Lib.hid ((h1.block u.heap.size (by simp)).trans (blk_new1 u.drew (Obj.cells #[.slice none 0 0, .int .i64 0, .slice none 0 0] 31)))
        clear h1 O1
        refine hK.out _ _ (SOF.out v1 Qa.out Ea.out) (fun hHeld => ?_)
        clear hK K
        (try simp only [Act.put, List.setIfInBounds_toArray, List.set_cons_zero, List.set_cons_succ])
        refine wpAnyH_ready (rs := [3]) (by kernel_rfl) (by simp) ?_
        refine AllReadyH.cons (o := ?_) (by simp only [List.getElem?_toArray, List.getElem?_cons_succ, List.getElem?_cons_zero]; rfl) (fun K hK => ?_) AllReadyH.nil
        go_simp
        (go_at_call 57; refine (specBookBk (u.heap.size + 1) _ A1 sn c1 D1 dn d1 ⟨ss, k, ds⟩ ⟨id, day, kind, item, eq, ea, er⟩ _ O1'.out (zs) HA.out HE.out DS.out).mono ?_; rintro r v2 ⟨A, n, c, kk, D, m, d, rfl, h2, hb2, hk2⟩)
        go_wp2_with fail
        obtain ⟨r9, hr9⟩ : ∃ r9, r9 = u.heap.size := ⟨_, rfl⟩
        obtain ⟨U9, hU9⟩ : ∃ U9, U9 = v2 := ⟨_, rfl⟩
        have R9 := Lib.hid (show U9.heap[r9]? = some (Obj.cells #[.slice none 0 0, .int .i64 0, .slice none 0 0] 31 (0, 0)) by rw [hU9, hr9]; exact hk2 _ _ _ (.inr ⟨rfl, by simp⟩) Ra.out)
        have Q9 := Lib.hid (show U9.heap[w.heap.size]? = some (Obj.cells #[.slice sA sn sc, .int .i64 k, .slice dA dn dc] 31 (0, 0)) by rw [hU9]; exact hk2 _ _ _ (.inr ⟨rfl, by simp⟩) Qa.out); have E9 := Lib.hid (show U9.heap[w.heap.size + 1]? = some (Obj.cells #[.int .i64 id, .int .i64 day, .int .i64 kind, .string item, .int .i64 eq, .int .i64 ea, .int .i64 er] 44 (0, 0)) by rw [hU9]; exact hk2 _ _ _ (.inl rfl) Ea.out); have Z9 := Lib.hid (show U9.heap[w.heap.size + 1 + 1]? = some (Obj.cells #[.slice none 0 0, .int .i64 0, .slice none 0 0] 31 (0, 0)) by rw [hU9]; exact hk2 _ _ _ (.inr ⟨rfl, by simp⟩) Za.out)
        have rl9 : w.heap.size + 1 + 1 < r9 := by omega
        have B9 := Lib.hid (show Below w.heap.size w U9 by rw [hU9]; exact B3.out.trans ((B1.out.mono NW).trans (hb2.mono (by omega))))
        have H9 := Lib.hid (show (bookB ⟨ss, k, ds⟩ ⟨id, day, kind, item, eq, ea, er⟩).1 = 0 → kk = (bookB ⟨ss, k, ds⟩ ⟨id, day, kind, item, eq, ea, er⟩).2.k ∧ BooksO U9 w.heap.size U9.heap.size (.slice A n c) n (bookB ⟨ss, k, ds⟩ ⟨id, day, kind, item, eq, ea, er⟩).2.ss (.slice D m d) m (bookB ⟨ss, k, ds⟩ ⟨id, day, kind, item, eq, ea, er⟩).2.ds from fun h => ⟨(h2 h).1, by rw [hU9]; exact (h2 h).2.top.mono (by omega) (Nat.le_refl _)⟩)
        refine hK.out _ _ (SOF.out _ (hU9 ▸ Q9.out) (hU9 ▸ E9.out)) (fun hHeld => ?_)
        clear hK K
        (try simp only [Act.put, List.setIfInBounds_toArray, List.set_cons_zero, List.set_cons_succ])
        refine wpAnyH_take (i := 4) (oi := ?_) (v := ?_) (by simp only [List.getElem?_toArray, List.getElem?_cons_succ, List.getElem?_cons_zero]; rfl) (by kernel_rfl) (by kernel_rfl) (by kernel_rfl) ?_ (Or.inl ⟨by rfl, ?_⟩) hHeld ?_
        rotate_left 1
        focus exact CutPost.panic fun _ _ _ h => h
        focus (intro w hSw; (try dsimp only at hSw); go_simp; try with_reducible rfl)
        (try simp only [Act.put, List.setIfInBounds_toArray, List.set_cons_zero, List.set_cons_succ])
        refine wpAnyH_take (i := 5) (oi := ?_) (v := ?_) (by simp only [List.getElem?_toArray, List.getElem?_cons_succ, List.getElem?_cons_zero]; rfl) (by kernel_rfl) (by kernel_rfl) (by kernel_rfl) ?_ (Or.inl ⟨by rfl, ?_⟩) hHeld ?_
        rotate_left 1
        focus exact CutPost.panic fun _ _ _ h => h
        focus (intro w hSw; (try dsimp only at hSw); go_simp; try with_reducible rfl)
        (try simp only [Act.put, List.setIfInBounds_toArray, List.set_cons_zero, List.set_cons_succ])
        refine wpAnyH_take (i := 6) (oi := ?_) (v := ?_) (by simp only [List.getElem?_toArray, List.getElem?_cons_succ, List.getElem?_cons_zero]; rfl) (by kernel_rfl) (by kernel_rfl) (by kernel_rfl) ?_ (Or.inl ⟨by rfl, ?_⟩) hHeld ?_
        rotate_left 1
        focus exact CutPost.panic fun _ _ _ h => h
        focus (intro w hSw; (try dsimp only at hSw); go_simp; try with_reducible rfl)
        (try simp only [Act.put, List.setIfInBounds_toArray, List.set_cons_zero, List.set_cons_succ])
        rw [← hU9] at hHeld
        rw [← hr9, ← hU9]
        clear hr9 hU9 h2 hb2 hk2 O1' Qa Ea Za B1 Ra zs
      all_goals
        clear Q3 Z3 E3 B3 NL NW ZB bA
        have r0 := blk_at R9.out (j := 0) rfl; have r1 := blk_at R9.out (j := 1) rfl; have r2 := blk_at R9.out (j := 2) rfl; have rf := blk_free R9.out
        refine wpAnyH_ready (rs := [8]) (by kernel_rfl) (by simp) ?_
        refine AllReadyH.cons (o := ?_) (by simp only [List.getElem?_toArray, List.getElem?_cons_succ, List.getElem?_cons_zero]; rfl) (fun K hK => ?_) AllReadyH.nil
        go_simp
        refine hK.out _ _ (SOF.out _ ((blk_set3_ne (by omega) _ _ _).trans Q9.out) ((blk_set3_ne (by omega) _ _ _).trans E9.out)) (fun hHeld => ?_)
        clear hK K
        (try simp only [Act.put, List.setIfInBounds_toArray, List.set_cons_zero, List.set_cons_succ])
        refine wpAnyH_done (by kernel_rfl) ?_ _
        refine CutPost.step (o := ?_) (by simp only [List.getElem?_toArray, List.getElem?_cons_succ, List.getElem?_cons_zero]; rfl) (fun K hK => ?_)
        go_simp
        refine hK _ _ ?_
        clear hK K
        (try simp only [Act.put, List.setIfInBounds_toArray, List.set_cons_zero, List.set_cons_succ])
        clear r0 r1 r2 rf
        obtain ⟨V, hV⟩ : ∃ V, V = (((U9.setCell ⟨r9, 0, none⟩ (.slice A n c)).setCell ⟨r9, 1, none⟩ (.int .i64 kk)).setCell ⟨r9, 2, none⟩ (.slice D m d)) := ⟨_, rfl⟩
        have RV := Lib.hid (show V.heap[r9]? = some (Obj.cells #[.slice A n c, .int .i64 kk, .slice D m d] 31 (0, 0)) by rw [hV]; exact blk_set3 R9.out _ _ _)
        have QV := Lib.hid (show V.heap[w.heap.size]? = some (Obj.cells #[.slice sA sn sc, .int .i64 k, .slice dA dn dc] 31 (0, 0)) by rw [hV]; exact (blk_set3_ne (by omega) _ _ _).trans Q9.out)
        have ZV := Lib.hid (show V.heap[w.heap.size + 1 + 1]? = some (Obj.cells #[.slice none 0 0, .int .i64 0, .slice none 0 0] 31 (0, 0)) by rw [hV]; exact (blk_set3_ne (by omega) _ _ _).trans Z9.out)
        have BV := Lib.hid (show Below w.heap.size w V by rw [hV]; exact below_out3 B9.out (by omega) _ _ _)
        have HV := Lib.hid (show (bookB ⟨ss, k, ds⟩ ⟨id, day, kind, item, eq, ea, er⟩).1 = 0 → kk = (bookB ⟨ss, k, ds⟩ ⟨id, day, kind, item, eq, ea, er⟩).2.k ∧ BooksO V w.heap.size V.heap.size (.slice A n c) n (bookB ⟨ss, k, ds⟩ ⟨id, day, kind, item, eq, ea, er⟩).2.ss (.slice D m d) m (bookB ⟨ss, k, ds⟩ ⟨id, day, kind, item, eq, ea, er⟩).2.ds from fun h => ⟨(H9.out h).1, by rw [hV]; exact (BooksO.out3 (H9.out h).2 R9.out _ _ _).top⟩)
        rw [← hV]
        clear hV R9 Q9 E9 Z9 B9 H9
        have z0 := blk_at ZV.out (j := 0) rfl; have z1 := blk_at ZV.out (j := 1) rfl; have z2 := blk_at ZV.out (j := 2) rfl; have zf := blk_free ZV.out
        obtain ⟨cd, hcd⟩ : ∃ cd, cd = (bookB ⟨ss, k, ds⟩ ⟨id, day, kind, item, eq, ea, er⟩).1 := ⟨_, rfl⟩
        rw [← hcd] at HV ⊢
        by_cases hc : cd = 0
        · have R := Lib.hid (show bookEv ⟨ss, k, ds⟩ ⟨id, day, kind, item, eq, ea, er⟩ = (0, (bookB ⟨ss, k, ds⟩ ⟨id, day, kind, item, eq, ea, er⟩).2) by
            have h0 : (bookB ⟨ss, k, ds⟩ ⟨id, day, kind, item, eq, ea, er⟩).1 = 0 := by rw [← hcd]; exact hc
            simp only [bookEv, HA.out, HE.out, Bool.and_self, if_true, h0]; exact Prod.ext h0 rfl)
          obtain ⟨hk9, O9⟩ := HV.out hc
          have HK := Lib.hid hk9; have O9' := Lib.hid O9
          clear HV hcd hk9 O9
          subst hc
          have v0 := blk_at RV.out (j := 0) rfl; have v1 := blk_at RV.out (j := 1) rfl; have v2 := blk_at RV.out (j := 2) rfl
          go_wp2_with fail
          rw [R.out]
          refine bodyPost_ret (v := .tuple #[.agg #[.slice A n c, .int .i64 kk, .slice D m d], .int .i64 0]) (by simp [results, Try.results24, go_sem, z0, z1, z2]) rfl ⟨A, n, c, D, m, d, by rw [HK.out], ?_, below_out3 BV.out (by omega) _ _ _⟩
          exact (BooksO.out3 O9'.out ZV.out _ _ _).top
        · have R := Lib.hid (show bookEv ⟨ss, k, ds⟩ ⟨id, day, kind, item, eq, ea, er⟩ = (cd, ⟨ss, k, ds⟩) by
            have h0 : ¬ (bookB ⟨ss, k, ds⟩ ⟨id, day, kind, item, eq, ea, er⟩).1 = 0 := by rw [← hcd]; exact hc
            simp only [bookEv, HA.out, HE.out, Bool.and_self, if_true, if_neg h0, hcd])
          clear HV hcd z0 z1 z2 zf
          have x0 := blk_at QV.out (j := 0) rfl; have x1 := blk_at QV.out (j := 1) rfl; have x2 := blk_at QV.out (j := 2) rfl
          go_wp2_with fail
          refine (specCopyBk _ _ _ k _ _ _ ss ds V (hr.below BV.out) (hd.below BV.out) hn hm S2.out D2.out).mono ?_; rintro r w5 ⟨A5, c5, D5, d5, rfl, O5, hb5⟩
          have Z5 := Lib.hid (blk_keep hb5 ZV.out)
          have B5 := Lib.hid (below_app BV.out hb5 BV.out.size)
          have O5' := Lib.hid O5
          have s5 := BV.out.size
          clear x0 x1 x2 O5 hb5
          have z0 := blk_at Z5.out (j := 0) rfl; have z1 := blk_at Z5.out (j := 1) rfl; have z2 := blk_at Z5.out (j := 2) rfl; have zf := blk_free Z5.out
          go_wp2_with fail
          rw [R.out]
          refine bodyPost_ret (v := .tuple #[.agg #[.slice A5 sn c5, .int .i64 k, .slice D5 dn d5], .int .i64 cd]) (by simp [results, Try.results24, go_sem, z0, z1, z2]) rfl ⟨A5, sn, c5, D5, dn, d5, rfl, ?_, below_out3 B5.out (by omega) _ _ _⟩
          exact (BooksO.out3 O5'.out Z5.out _ _ _).top.mono s5 (Nat.le_refl _)
end Go.Proofs.Ytlgodbjbllpipaa
namespace Go.Proofs.Ytlgodbjbllpipaa.fnExactBookEvent
open Go.ChangeShapes Go.WideShapes Go.ChangeAt Go.RowKit

theorem implBookEv' (sA : Option Addr) (sn sc : Nat) (k : Int) (dA : Option Addr) (dn dc : Nat) (ss : List Shf) (ds : List Doc) (e : Ev) (w : World) (rn rm : Nat) (rk rc : Int) (rs : List Shf) (rd : List Doc) (RX : bookEv ⟨ss, k, ds⟩ e = (rc, ⟨rs, rk, rd⟩)) (RN : rs.length = rn) (RM : rd.length = rm)
    (hr : ShelvesR w sA sn ss) (hd : DocsR w dA dn ds) (hn : sn ≤ 1048600) (hm : dn ≤ 1048600) (hss : shsSmall ss) (hds : docsSmall ds) (he : e.item.size ≤ 9223372036854775807) :
    Calls Try.prog 26 #[.agg #[.slice sA sn sc, .int .i64 k, .slice dA dn dc], evAgg e] w fun r w' => ∃ A c D d, r = .returned (.tuple #[.agg #[.slice A rn c, .int .i64 rk, .slice D rm d], .int .i64 rc]) ∧
      BooksO w' w.heap.size w'.heap.size (.slice A rn c) rn rs (.slice D rm d) rm rd ∧ Below w.heap.size w w' := by
  refine (implBookEv sA sn sc k dA dn dc ss ds e w hr hd hn hm hss hds he).mono ?_
  rw [RX]
  rintro r w' ⟨A, n, c, D, m, d, rfl, O, hb⟩
  obtain rfl : n = rn := by rw [← O.shelves.len]; exact RN
  obtain rfl : m = rm := by rw [← O.docs.len]; exact RM
  exact ⟨A, c, D, d, rfl, O, hb⟩
theorem specBookEv' (sA : Option Addr) (sn sc : Nat) (k : Int) (dA : Option Addr) (dn dc : Nat) (ss : List Shf) (ds : List Doc) (e : Ev) (w : World) (rn rm : Nat) (rk rc : Int) (rs : List Shf) (rd : List Doc) (RX : bookEv ⟨ss, k, ds⟩ e = (rc, ⟨rs, rk, rd⟩)) (RN : rs.length = rn) (RM : rd.length = rm)
    (hr : ShelvesR w sA sn ss) (hd : DocsR w dA dn ds) (hn : sn ≤ 1048600) (hm : dn ≤ 1048600) (hss : shsSmall ss) (hds : docsSmall ds) (he : e.item.size ≤ 9223372036854775807) :
    Calls Try.prog 24 #[.agg #[.slice sA sn sc, .int .i64 k, .slice dA dn dc], evAgg e] w fun r w' => ∃ A c D d, r = .returned (.tuple #[.agg #[.slice A rn c, .int .i64 rk, .slice D rm d], .int .i64 rc]) ∧
      BooksO w' w.heap.size w'.heap.size (.slice A rn c) rn rs (.slice D rm d) rm rd ∧ Below w.heap.size w w' := by
  refine (specBookEv sA sn sc k dA dn dc ss ds e w hr hd hn hm hss hds he).mono ?_
  rw [RX]
  rintro r w' ⟨A, n, c, D, m, d, rfl, O, hb⟩
  obtain rfl : n = rn := by rw [← O.shelves.len]; exact RN
  obtain rfl : m = rm := by rw [← O.docs.len]; exact RM
  exact ⟨A, c, D, d, rfl, O, hb⟩
theorem lawCells {w : World} {r : Nat} {e : Ev} (h : w.heap[r]? = some (.cells #[.int .i64 e.id, .int .i64 e.day, .int .i64 e.kind, .string e.item, .int .i64 e.q, .int .i64 e.a, .int .i64 e.r] 40 (0, 0))) :
    w.cell? ⟨r, 0, none⟩ = some (.int .i64 e.id) ∧ w.cell? ⟨r, 1, none⟩ = some (.int .i64 e.day) ∧ w.cell? ⟨r, 2, none⟩ = some (.int .i64 e.kind) ∧ w.cell? ⟨r, 3, none⟩ = some (.string e.item) ∧ w.cell? ⟨r, 4, none⟩ = some (.int .i64 e.q) ∧ w.cell? ⟨r, 5, none⟩ = some (.int .i64 e.a) ∧ w.cell? ⟨r, 6, none⟩ = some (.int .i64 e.r) :=
  ⟨blk_at h rfl, blk_at h rfl, blk_at h rfl, blk_at h rfl, blk_at h rfl, blk_at h rfl, blk_at h rfl⟩
set_option maxRecDepth 100000 in
set_option maxHeartbeats 16000000 in
theorem walk (w : World) (sA : Option Addr) (sn sc : Nat) (k : Int) (dA : Option Addr) (dn dc : Nat) (ss : List Shf) (ds : List Doc) (hr : ShelvesR w sA sn ss) (hd : DocsR w dA dn ds) (hn : sn ≤ 9223372036854775807) (hm : dn ≤ 9223372036854775807) (_hk : i64 k) (hok : ∀ y ∈ ss, shOk y) (hod : ∀ y ∈ ds, docOk y) (e : Ev) (he : evOk e) :
    Calls Try.prog 8 #[.agg #[.slice sA sn sc, .int .i64 k, .slice dA dn dc], evAgg e] w fun e' w' => e' = .returned (.bool true) ∧ Below w.heap.size w w' := by
  obtain ⟨id, day, kind, item, eq, ea, er⟩ := e
  have hit : item.size ≤ 9223372036854775807 := he.2.2.2.1
  clear he
  have B0 := Lib.hid (below_then (below_box w (Obj.cells #[.slice sA sn sc, .int .i64 k, .slice dA dn dc] 25)) (below_box _ (Obj.cells #[.int .i64 id, .int .i64 day, .int .i64 kind, .string item, .int .i64 eq, .int .i64 ea, .int .i64 er] 40)))
  have QA := Lib.hid (blk_alloc (blk_new1 w (Obj.cells #[.slice sA sn sc, .int .i64 k, .slice dA dn dc] 25)) (Obj.cells #[.int .i64 id, .int .i64 day, .int .i64 kind, .string item, .int .i64 eq, .int .i64 ea, .int .i64 er] 40))
  have EA := Lib.hid (blk_new2 w (Obj.cells #[.slice sA sn sc, .int .i64 k, .slice dA dn dc] 25) (Obj.cells #[.int .i64 id, .int .i64 day, .int .i64 kind, .string item, .int .i64 eq, .int .i64 ea, .int .i64 er] 40))
  obtain ⟨W, hW⟩ : ∃ W, W = (w.alloc (Obj.cells #[.slice sA sn sc, .int .i64 k, .slice dA dn dc] 25)).alloc (Obj.cells #[.int .i64 id, .int .i64 day, .int .i64 kind, .string item, .int .i64 eq, .int .i64 ea, .int .i64 er] 40) := ⟨_, rfl⟩
  rw [← hW] at B0 QA EA
  have x0 := blk_at QA.out (j := 0) rfl; have x1 := blk_at QA.out (j := 1) rfl; have x2 := blk_at QA.out (j := 2) rfl
  have hrW := hr.below B0.out; have hdW := hd.below B0.out
  have nn := bkSz_nonneg sn dn ss ds
  by_cases zl : (1048576 : Int) < bkSz sn dn ss ds
  · have HZ := Lib.hid (szRes_no zl); clear zl
    go_enter Try.func8, Try.ntmps8
    go_upto_region 2 with fail
    rw [← hW]
    clear hW
    go_wp2_with fail
    refine (szBooks_any _ _ _ k _ _ _ ss ds _ _ hrW hdW hn hm hok hod (by omega) (by omega)).mono ?_; rw [HZ.out]; rintro e' w1 ⟨rfl, hb1⟩
    go_wp2_with fail
    go_ret
    exact ⟨rfl, below_then B0.out hb1⟩
  have Zl := Int.not_lt.1 zl
  clear zl
  have HY := Lib.hid (szRes_yes Zl)
  by_cases zs : (1048576 : Int) - bkSz sn dn ss ds - item.size < 0
  · go_enter Try.func8, Try.ntmps8
    go_upto_region 2 with fail
    rw [← hW]
    clear hW
    go_wp2_with fail
    refine (szBooks_any _ _ _ k _ _ _ ss ds _ _ hrW hdW hn hm hok hod (by omega) (by omega)).mono ?_; rw [HY.out]; rintro e' w1 ⟨rfl, hb1⟩
    obtain ⟨y0, y1, y2, y3, y4, y5, y6⟩ := lawCells (e := ⟨id, day, kind, item, eq, ea, er⟩) (blk_keep hb1 EA.out)
    simp only at y0 y1 y2 y3 y4 y5 y6
    clear x0 x1 x2
    go_wp2_with fail
    refine (szEvent_any ⟨id, day, kind, item, eq, ea, er⟩ _ _ (by omega) (by omega) hit).mono ?_; rw [if_pos zs]; rintro e' w2 ⟨rfl, hb2⟩
    go_wp2_with fail
    go_ret
    exact ⟨rfl, below_then (below_then B0.out hb1) hb2⟩
  have FI := Lib.hid (fit_size (ss := ss) (ds := ds) (by rw [hr.len, hd.len]; exact Zl))
  have FR := Lib.hid (bookEv_fit (b := ⟨ss, k, ds⟩) (e := ⟨id, day, kind, item, eq, ea, er⟩) (by simp only; rw [hr.len, hd.len]; exact Zl) hit)
  have SZ := Lib.hid (bk_small hr.len hd.len Zl)
  have q1 := SZ.out.1; have q2 := SZ.out.2.1
  have Q34 := Lib.hid SZ.out.2.2
  have t1 : sn ≤ 1048600 := by omega
  have t2 : dn ≤ 1048600 := by omega
  have SH : Hid (shsSmall ss) := Lib.hid (shs_are SZ.out.2.2.1)
  have DO : Hid (docsSmall ds) := Lib.hid (docs_are SZ.out.2.2.2 hod)
  have SL := Lib.hid hr.len; have DL := Lib.hid hd.len
  obtain ⟨rc, ⟨rs, rk, rd⟩, hRX⟩ : ∃ rc rb, bookEv ⟨ss, k, ds⟩ ⟨id, day, kind, item, eq, ea, er⟩ = (rc, rb) := ⟨_, _, rfl⟩
  have RX := Lib.hid hRX
  rw [hRX] at FR
  clear hRX
  obtain ⟨rn, hrn⟩ : ∃ rn, rs.length = rn := ⟨_, rfl⟩
  obtain ⟨rm, hrm⟩ : ∃ rm, rd.length = rm := ⟨_, rfl⟩
  have RN := Lib.hid hrn; have RM := Lib.hid hrm
  have g1 : rn ≤ 1048600 := by rw [← hrn]; exact FR.out.sn
  have g2 : rm ≤ 1048600 := by rw [← hrm]; exact FR.out.dn
  have KS := Lib.hid (show ∀ k0, kSh k0 rs rn ≤ k0 + 8000000 by rw [← hrn]; exact FR.out.ks)
  have KD := Lib.hid (show ∀ k0, kDoc k0 rd rm ≤ k0 + 2097200 by rw [← hrm]; exact FR.out.kd)
  have KS0 := Lib.hid (show ∀ k0, kSh k0 ss sn ≤ k0 + 8000000 by rw [← SL.out]; exact FI.out.ks)
  have KD0 := Lib.hid (show ∀ k0, kDoc k0 ds dn ≤ k0 + 2097200 by rw [← DL.out]; exact FI.out.kd)
  have KM := Lib.hid (show 1 ≤ kSh 1 rs rn ∧ kSh 1 rs rn ≤ kDoc (kSh 1 rs rn) rd rm from ⟨(kSh_mono 1 (ss := rs) (k := rn) (n := rn) (Nat.le_refl _) (by rw [RN.out]; exact Nat.le_refl _)).1, (kDoc_mono _ (ds := rd) (k := rm) (n := rm) (Nat.le_refl _) (by rw [RM.out]; exact Nat.le_refl _)).1⟩)
  have KM0 := Lib.hid (show 1 ≤ kSh 1 ss sn ∧ kSh 1 ss sn ≤ kDoc (kSh 1 ss sn) ds dn from ⟨(kSh_mono 1 (ss := ss) (k := sn) (n := sn) (Nat.le_refl _) (by rw [SL.out]; exact Nat.le_refl _)).1, (kDoc_mono _ (ds := ds) (k := dn) (n := dn) (Nat.le_refl _) (by rw [DL.out]; exact Nat.le_refl _)).1⟩)
  have RS1 := Lib.hid (show ∀ x ∈ rs, shOk x from fun x hx => by have := FR.out.sh x hx; exact ⟨this.1, by omega, by omega⟩)
  have RD1 := Lib.hid (show ∀ d ∈ rd, d.ents.length ≤ 9223372036854775807 from fun d hd => by have := FR.out.do_ d hd; omega)
  have RS2 := Lib.hid (show ∀ s ∈ rs, s.ids.length ≤ 1048600 ∧ s.lays.length ≤ 1048600 from fun s hs => (FR.out.sh s hs).2)
  have SS2 := Lib.hid (show ∀ s ∈ ss, s.ids.length ≤ 1048600 ∧ s.lays.length ≤ 1048600 from fun s hs => (FI.out.sh s hs).2)
  have SD1 := Lib.hid (show ∀ d ∈ ds, d.ents.length ≤ 9223372036854775807 from fun d hd => by have := FI.out.do_ d hd; omega)
  have HOK := Lib.hid hok; have HOD := Lib.hid hod
  clear hrn hrm hok hod SZ FI FR
  go_enter Try.func8, Try.ntmps8
  go_upto_region 2 with fail
  rw [← hW]
  clear hW
  go_wp2_with fail
  refine (szBooks_any _ _ _ k _ _ _ ss ds _ _ hrW hdW hn hm HOK.out HOD.out (by omega) (by omega)).mono ?_; rw [HY.out]; rintro e' w1 ⟨rfl, hb1⟩
  have EA := Lib.hid (blk_keep hb1 EA.out); have QA := Lib.hid (blk_keep hb1 QA.out)
  obtain ⟨y0, y1, y2, y3, y4, y5, y6⟩ := lawCells (e := ⟨id, day, kind, item, eq, ea, er⟩) EA.out
  simp only at y0 y1 y2 y3 y4 y5 y6
  clear x0 x1 x2 hrW hdW
  go_wp2_with fail
  refine (szEvent_any ⟨id, day, kind, item, eq, ea, er⟩ _ _ (by omega) (by omega) hit).mono ?_; rw [if_neg (show ¬ (1048576 : Int) - bkSz sn dn ss ds - item.size < 0 by omega)]; rintro e' U ⟨rfl, hb2⟩
  have EA := Lib.hid (blk_keep hb2 EA.out); have QA := Lib.hid (blk_keep hb2 QA.out)
  clear y0 y1 y2 y3 y4 y5 y6
  have BZ := Lib.hid (below_then (below_then B0.out hb1) hb2)
  have NZ : w.heap.size ≤ U.heap.size := BZ.out.size
  clear hb1 hb2 B0 HY nn Zl
  have sOf : ∀ v : World, v.heap[w.heap.size]? = some (Obj.cells #[.slice sA sn sc, .int .i64 k, .slice dA dn dc] 25 (0, 0)) → v.heap[w.heap.size + 1]? = some (Obj.cells #[.int .i64 id, .int .i64 day, .int .i64 kind, .string item, .int .i64 eq, .int .i64 ea, .int .i64 er] 40 (0, 0)) → (v.cell? ⟨w.heap.size, 0, none⟩ = some (.slice sA sn sc) ∧ v.cell? ⟨w.heap.size, 1, none⟩ = some (.int .i64 k) ∧ v.cell? ⟨w.heap.size, 2, none⟩ = some (.slice dA dn dc)) ∧ v.cell? ⟨w.heap.size + 1, 0, none⟩ = some (.int .i64 id) ∧ v.cell? ⟨w.heap.size + 1, 1, none⟩ = some (.int .i64 day) ∧ v.cell? ⟨w.heap.size + 1, 2, none⟩ = some (.int .i64 kind) ∧ v.cell? ⟨w.heap.size + 1, 3, none⟩ = some (.string item) ∧ v.cell? ⟨w.heap.size + 1, 4, none⟩ = some (.int .i64 eq) ∧ v.cell? ⟨w.heap.size + 1, 5, none⟩ = some (.int .i64 ea) ∧ v.cell? ⟨w.heap.size + 1, 6, none⟩ = some (.int .i64 er) :=
    fun v h1 h2 => ⟨⟨blk_at h1 rfl, blk_at h1 rfl, blk_at h1 rfl⟩, lawCells (e := ⟨id, day, kind, item, eq, ea, er⟩) h2⟩
  have SO1 := Lib.hid sOf; clear sOf
  go_upto_region 8 with fail
  go_cut [6, 7] (fun s1 s2 wx => ∃ (A : Option Addr) (c : Nat) (D : Option Addr) (d r lo hi : Nat), s1 = .pointer (some ⟨r, 0, none⟩) ∧ s2 = .int .i64 rc ∧ Hid (wx.heap[r]? = some (Obj.cells #[.slice A rn c, .int .i64 rk, .slice D rm d] 31 (0, 0))) ∧ Hid (BooksO wx lo hi (.slice A rn c) rn rs (.slice D rm d) rm rd) ∧ U.heap.size ≤ lo ∧ U.heap.size ≤ r ∧ lo ≤ hi ∧ hi ≤ wx.heap.size ∧ (r < lo ∨ hi ≤ r) ∧ Hid (Below U.heap.size U wx))
  case first =>
    refine wp_region_cut (S := fun v => (v.cell? ⟨w.heap.size, 0, none⟩ = some (.slice sA sn sc) ∧ v.cell? ⟨w.heap.size, 1, none⟩ = some (.int .i64 k) ∧ v.cell? ⟨w.heap.size, 2, none⟩ = some (.slice dA dn dc)) ∧ v.cell? ⟨w.heap.size + 1, 0, none⟩ = some (.int .i64 id) ∧ v.cell? ⟨w.heap.size + 1, 1, none⟩ = some (.int .i64 day) ∧ v.cell? ⟨w.heap.size + 1, 2, none⟩ = some (.int .i64 kind) ∧ v.cell? ⟨w.heap.size + 1, 3, none⟩ = some (.string item) ∧ v.cell? ⟨w.heap.size + 1, 4, none⟩ = some (.int .i64 eq) ∧ v.cell? ⟨w.heap.size + 1, 5, none⟩ = some (.int .i64 ea) ∧ v.cell? ⟨w.heap.size + 1, 6, none⟩ = some (.int .i64 er)) 10 (by kernel_rfl) (by kernel_rfl) (by simp only [List.pop_toArray, List.dropLast_cons_cons, List.dropLast_singleton]; rfl) (SO1.out U.drew QA.out EA.out) (fun hHeld => ?_)
    obtain ⟨v0, hv0⟩ : ∃ v0, v0 = U.drew := ⟨_, rfl⟩
    rw [← hv0] at hHeld ⊢
    have Bv0 := Lib.hid (show Below U.heap.size U v0 by rw [hv0]; exact (Below.refl _ _).drew)
    have Hv0s := Bv0.out.size
    clear hv0
    refine wpAnyH_take (i := 0) (oi := ?_) (v := ?_) (by simp only [List.getElem?_toArray, List.getElem?_cons_zero]; rfl) (by kernel_rfl) (by kernel_rfl) (by kernel_rfl) ?_ (Or.inl ⟨by rfl, ?_⟩) hHeld ?_
    rotate_left 1
    focus exact CutPost.panic fun _ _ _ h => h
    focus (intro w hSw; (try dsimp only at hSw); go_simp; try with_reducible rfl)
    (try simp only [Act.put, List.setIfInBounds_toArray, List.set_cons_zero, List.set_cons_succ])
    refine wpAnyH_take (i := 2) (oi := ?_) (v := ?_) (by simp only [List.getElem?_toArray, List.getElem?_cons_succ, List.getElem?_cons_zero]; rfl) (by kernel_rfl) (by kernel_rfl) (by kernel_rfl) ?_ (Or.inl ⟨by rfl, ?_⟩) hHeld ?_
    rotate_left 1
    focus exact CutPost.panic fun _ _ _ h => h
    focus (intro w hSw; (try dsimp only at hSw); go_simp; try with_reducible rfl)
    (try simp only [Act.put, List.setIfInBounds_toArray, List.set_cons_zero, List.set_cons_succ])
    refine wpAnyH_ready (rs := [1, 8]) (by kernel_rfl) (by simp) ?_
    refine AllReadyH.cons (o := ?_) (by simp only [List.getElem?_toArray, List.getElem?_cons_succ, List.getElem?_cons_zero]; rfl) (fun K hK => ?_) (AllReadyH.cons (o := ?_) (by simp only [List.getElem?_toArray, List.getElem?_cons_succ, List.getElem?_cons_zero]; rfl) (fun K hK => ?_) AllReadyH.nil)
    ·
      go_simp
      (go_at_call 12; refine (toBooks_any _ _ _ k _ _ _ ss ds _ (hr.below (BZ.out.trans (Bv0.out.mono NZ))) (hd.below (BZ.out.trans (Bv0.out.mono NZ))) q1 q2 Q34.out.1 Q34.out.2).mono ?_; rintro r' v0c ⟨A1, c1, D1, d1, rfl, O1x, hbv0c⟩)
      go_wp2_with fail
      have Bv0c := Lib.hid (below_app Bv0.out hbv0c Bv0.out.size)
      have Hv0cs := hbv0c.size
      have O1 := Lib.hid O1x
      refine hK.out _ _ (SO1.out v0c (blk_keep Bv0c.out QA.out) (blk_keep Bv0c.out EA.out)) (fun hHeld => ?_)
      clear hK K
      (try simp only [Act.put, List.setIfInBounds_toArray, List.set_cons_zero, List.set_cons_succ])
      refine wpAnyH_ready (rs := [3, 8]) (by kernel_rfl) (by simp) ?_
      refine AllReadyH.cons (o := ?_) (by simp only [List.getElem?_toArray, List.getElem?_cons_succ, List.getElem?_cons_zero]; rfl) (fun K hK => ?_) (AllReadyH.cons (o := ?_) (by simp only [List.getElem?_toArray, List.getElem?_cons_succ, List.getElem?_cons_zero]; rfl) (fun K hK => ?_) AllReadyH.nil)
      ·
        go_simp
        (go_at_call 25; refine (toEvent_any ⟨id, day, kind, item, eq, ea, er⟩ _).mono ?_; rintro r' v0cc ⟨rfl, hbv0cc⟩)
        go_wp2_with fail
        have Bv0cc := Lib.hid (below_app Bv0c.out hbv0cc Bv0c.out.size)
        have Hv0ccs := hbv0cc.size
        have O1 := Lib.hid (O1.out.below hbv0cc)
        refine hK.out _ _ (SO1.out v0cc (blk_keep Bv0cc.out QA.out) (blk_keep Bv0cc.out EA.out)) (fun hHeld => ?_)
        clear hK K
        (try simp only [Act.put, List.setIfInBounds_toArray, List.set_cons_zero, List.set_cons_succ])
        refine wpAnyH_ready (rs := [4, 8]) (by kernel_rfl) (by simp) ?_
        refine AllReadyH.cons (o := ?_) (by simp only [List.getElem?_toArray, List.getElem?_cons_succ, List.getElem?_cons_zero]; rfl) (fun K hK => ?_) (AllReadyH.cons (o := ?_) (by simp only [List.getElem?_toArray, List.getElem?_cons_succ, List.getElem?_cons_zero]; rfl) (fun K hK => ?_) AllReadyH.nil)
        ·
          go_simp
          (go_at_call 24; refine (specBookEv' _ _ _ k _ _ _ ss ds ⟨id, day, kind, item, eq, ea, er⟩ _ rn rm rk rc rs rd RX.out RN.out RM.out O1.out.shelves O1.out.docs t1 t2 SH.out DO.out hit).mono ?_; rintro r' v0ccc ⟨A9, c9, D9, d9, rfl, O9x, hbv0ccc⟩)
          go_wp2_with fail
          have Bv0ccc := Lib.hid (below_app Bv0cc.out hbv0ccc Bv0cc.out.size)
          have Hv0cccs := hbv0ccc.size
          have O1 := Lib.hid (O1.out.below hbv0ccc)
          have O9 := Lib.hid O9x
          refine hK.out _ _ (SO1.out v0ccc (blk_keep Bv0ccc.out QA.out) (blk_keep Bv0ccc.out EA.out)) (fun hHeld => ?_)
          clear hK K
          (try simp only [Act.put, List.setIfInBounds_toArray, List.set_cons_zero, List.set_cons_succ])
          refine wpAnyH_take (i := 5) (oi := ?_) (v := ?_) (by simp only [List.getElem?_toArray, List.getElem?_cons_succ, List.getElem?_cons_zero]; rfl) (by kernel_rfl) (by kernel_rfl) (by kernel_rfl) ?_ (Or.inl ⟨by rfl, ?_⟩) hHeld ?_
          rotate_left 1
          focus exact CutPost.panic fun _ _ _ h => h
          focus (intro w hSw; (try dsimp only at hSw); go_simp; try with_reducible rfl)
          (try simp only [Act.put, List.setIfInBounds_toArray, List.set_cons_zero, List.set_cons_succ])
          refine wpAnyH_take (i := 6) (oi := ?_) (v := ?_) (by simp only [List.getElem?_toArray, List.getElem?_cons_succ, List.getElem?_cons_zero]; rfl) (by kernel_rfl) (by kernel_rfl) (by kernel_rfl) ?_ (Or.inl ⟨by rfl, ?_⟩) hHeld ?_
          rotate_left 1
          focus exact CutPost.panic fun _ _ _ h => h
          focus (intro w hSw; (try dsimp only at hSw); go_simp; try with_reducible rfl)
          (try simp only [Act.put, List.setIfInBounds_toArray, List.set_cons_zero, List.set_cons_succ])
          refine wpAnyH_take (i := 7) (oi := ?_) (v := ?_) (by simp only [List.getElem?_toArray, List.getElem?_cons_succ, List.getElem?_cons_zero]; rfl) (by kernel_rfl) (by kernel_rfl) (by kernel_rfl) ?_ (Or.inl ⟨by rfl, ?_⟩) hHeld ?_
          rotate_left 1
          focus exact CutPost.panic fun _ _ _ h => h
          focus (intro w hSw; (try dsimp only at hSw); go_simp; try with_reducible rfl)
          (try simp only [Act.put, List.setIfInBounds_toArray, List.set_cons_zero, List.set_cons_succ])
          refine wpAnyH_ready (rs := [8]) (by kernel_rfl) (by simp) ?_
          refine AllReadyH.cons (o := ?_) (by simp only [List.getElem?_toArray, List.getElem?_cons_succ, List.getElem?_cons_zero]; rfl) (fun K hK => ?_) AllReadyH.nil
          go_simp
          obtain ⟨v0cccz, hv0cccz⟩ : ∃ v0cccz, v0cccz = v0ccc.alloc (Obj.cells #[.slice none 0 0, .int .i64 0, .slice none 0 0] 31) := ⟨_, rfl⟩
          have Bv0cccz := Lib.hid (show Below U.heap.size U v0cccz by rw [hv0cccz]; exact Bv0ccc.out.alloc Bv0ccc.out.size _)
          have bv0cccz := Lib.hid (show Below v0ccc.heap.size v0ccc v0cccz by rw [hv0cccz]; exact below_box _ _)
          have Hv0ccczs : v0ccc.heap.size + 1 ≤ v0cccz.heap.size := by rw [hv0cccz]; exact Nat.le_of_eq (World.size_alloc _ _).symm
          obtain ⟨r, hr0⟩ : ∃ r, r = v0ccc.heap.size := ⟨_, rfl⟩
          have R0 := Lib.hid (show v0cccz.heap[r]? = some (Obj.cells #[.slice none 0 0, .int .i64 0, .slice none 0 0] 31 (0, 0)) by rw [hv0cccz, hr0]; exact blk_new1 _ _)
          have O1 := Lib.hid (O1.out.below bv0cccz.out)
          have O9 := Lib.hid (O9.out.below bv0cccz.out)
          rw [← hv0cccz, ← hr0]
          have RR := Lib.hid hr0
          clear hr0
          refine hK.out _ _ (SO1.out v0cccz (blk_keep Bv0cccz.out QA.out) (blk_keep Bv0cccz.out EA.out)) (fun hHeld => ?_)
          clear hK K
          (try simp only [Act.put, List.setIfInBounds_toArray, List.set_cons_zero, List.set_cons_succ])
          clear hv0cccz
          have r0 := blk_at R0.out (j := 0) rfl; have r1 := blk_at R0.out (j := 1) rfl; have r2 := blk_at R0.out (j := 2) rfl; have rf := blk_free R0.out
          refine wpAnyH_ready (rs := [9]) (by kernel_rfl) (by simp) ?_
          refine AllReadyH.cons (o := ?_) (by simp only [List.getElem?_toArray, List.getElem?_cons_succ, List.getElem?_cons_zero]; rfl) (fun K hK => ?_) AllReadyH.nil
          go_simp
          obtain ⟨V, hV⟩ : ∃ V, V = (((v0cccz.setCell ⟨r, 0, none⟩ (.slice A9 rn c9)).setCell ⟨r, 1, none⟩ (.int .i64 rk)).setCell ⟨r, 2, none⟩ (.slice D9 rm d9)) := ⟨_, rfl⟩
          have BV := Lib.hid (show Below U.heap.size U V by rw [hV]; exact below_out3 Bv0cccz.out (by have := RR.out; omega) _ _ _)
          have R9 := Lib.hid (show V.heap[r]? = some (Obj.cells #[.slice A9 rn c9, .int .i64 rk, .slice D9 rm d9] 31 (0, 0)) by rw [hV]; exact blk_set3 R0.out _ _ _)
          have H9 := Lib.hid (show BooksO V v0cc.heap.size v0ccc.heap.size _ _ _ _ _ _ by rw [hV]; exact BooksO.out3 O9.out R0.out _ _ _)
          have sV : v0cccz.heap.size ≤ V.heap.size := by rw [hV]; simp [World.setCell]
          rw [← hV]
          clear hV r0 r1 r2 rf
          refine hK.out _ _ (SO1.out V (blk_keep BV.out QA.out) (blk_keep BV.out EA.out)) (fun hHeld => ?_)
          clear hK K
          (try simp only [Act.put, List.setIfInBounds_toArray, List.set_cons_zero, List.set_cons_succ])
          refine wpAnyH_done (by kernel_rfl) ?_ _
          refine CutPost.step (o := ?_) (by simp only [List.getElem?_toArray, List.getElem?_cons_succ, List.getElem?_cons_zero]; rfl) (fun K hK => ?_)
          go_simp
          refine hK _ _ ?_
          clear hK K
          (try simp only [Act.put, List.setIfInBounds_toArray, List.set_cons_zero, List.set_cons_succ])
          go_wp2_with fail
          go_meet
          exact ⟨A9, c9, D9, d9, r, v0cc.heap.size, v0ccc.heap.size, rfl, rfl, R9, H9, by omega, by have := RR.out; omega, by omega, by omega, by have := RR.out; omega, BV⟩
        ·
          go_simp
          obtain ⟨v0ccz, hv0ccz⟩ : ∃ v0ccz, v0ccz = v0cc.alloc (Obj.cells #[.slice none 0 0, .int .i64 0, .slice none 0 0] 31) := ⟨_, rfl⟩
          have Bv0ccz := Lib.hid (show Below U.heap.size U v0ccz by rw [hv0ccz]; exact Bv0cc.out.alloc Bv0cc.out.size _)
          have bv0ccz := Lib.hid (show Below v0cc.heap.size v0cc v0ccz by rw [hv0ccz]; exact below_box _ _)
          have Hv0cczs : v0cc.heap.size + 1 ≤ v0ccz.heap.size := by rw [hv0ccz]; exact Nat.le_of_eq (World.size_alloc _ _).symm
          obtain ⟨r, hr0⟩ : ∃ r, r = v0cc.heap.size := ⟨_, rfl⟩
          have R0 := Lib.hid (show v0ccz.heap[r]? = some (Obj.cells #[.slice none 0 0, .int .i64 0, .slice none 0 0] 31 (0, 0)) by rw [hv0ccz, hr0]; exact blk_new1 _ _)
          have O1 := Lib.hid (O1.out.below bv0ccz.out)
          rw [← hv0ccz, ← hr0]
          have RR := Lib.hid hr0
          clear hr0
          refine hK.out _ _ (SO1.out v0ccz (blk_keep Bv0ccz.out QA.out) (blk_keep Bv0ccz.out EA.out)) (fun hHeld => ?_)
          clear hK K
          (try simp only [Act.put, List.setIfInBounds_toArray, List.set_cons_zero, List.set_cons_succ])
          clear hv0ccz
          refine wpAnyH_ready (rs := [4]) (by kernel_rfl) (by simp) ?_
          refine AllReadyH.cons (o := ?_) (by simp only [List.getElem?_toArray, List.getElem?_cons_succ, List.getElem?_cons_zero]; rfl) (fun K hK => ?_) AllReadyH.nil
          go_simp
          (go_at_call 24; refine (specBookEv' _ _ _ k _ _ _ ss ds ⟨id, day, kind, item, eq, ea, er⟩ _ rn rm rk rc rs rd RX.out RN.out RM.out O1.out.shelves O1.out.docs t1 t2 SH.out DO.out hit).mono ?_; rintro r' v0cczc ⟨A9, c9, D9, d9, rfl, O9x, hbv0cczc⟩)
          go_wp2_with fail
          have Bv0cczc := Lib.hid (below_app Bv0ccz.out hbv0cczc Bv0ccz.out.size)
          have Hv0cczcs := hbv0cczc.size
          have O1 := Lib.hid (O1.out.below hbv0cczc)
          have R0 := Lib.hid (blk_keep hbv0cczc R0.out)
          have O9 := Lib.hid O9x
          refine hK.out _ _ (SO1.out v0cczc (blk_keep Bv0cczc.out QA.out) (blk_keep Bv0cczc.out EA.out)) (fun hHeld => ?_)
          clear hK K
          (try simp only [Act.put, List.setIfInBounds_toArray, List.set_cons_zero, List.set_cons_succ])
          refine wpAnyH_take (i := 5) (oi := ?_) (v := ?_) (by simp only [List.getElem?_toArray, List.getElem?_cons_succ, List.getElem?_cons_zero]; rfl) (by kernel_rfl) (by kernel_rfl) (by kernel_rfl) ?_ (Or.inl ⟨by rfl, ?_⟩) hHeld ?_
          rotate_left 1
          focus exact CutPost.panic fun _ _ _ h => h
          focus (intro w hSw; (try dsimp only at hSw); go_simp; try with_reducible rfl)
          (try simp only [Act.put, List.setIfInBounds_toArray, List.set_cons_zero, List.set_cons_succ])
          refine wpAnyH_take (i := 6) (oi := ?_) (v := ?_) (by simp only [List.getElem?_toArray, List.getElem?_cons_succ, List.getElem?_cons_zero]; rfl) (by kernel_rfl) (by kernel_rfl) (by kernel_rfl) ?_ (Or.inl ⟨by rfl, ?_⟩) hHeld ?_
          rotate_left 1
          focus exact CutPost.panic fun _ _ _ h => h
          focus (intro w hSw; (try dsimp only at hSw); go_simp; try with_reducible rfl)
          (try simp only [Act.put, List.setIfInBounds_toArray, List.set_cons_zero, List.set_cons_succ])
          refine wpAnyH_take (i := 7) (oi := ?_) (v := ?_) (by simp only [List.getElem?_toArray, List.getElem?_cons_succ, List.getElem?_cons_zero]; rfl) (by kernel_rfl) (by kernel_rfl) (by kernel_rfl) ?_ (Or.inl ⟨by rfl, ?_⟩) hHeld ?_
          rotate_left 1
          focus exact CutPost.panic fun _ _ _ h => h
          focus (intro w hSw; (try dsimp only at hSw); go_simp; try with_reducible rfl)
          (try simp only [Act.put, List.setIfInBounds_toArray, List.set_cons_zero, List.set_cons_succ])
          have r0 := blk_at R0.out (j := 0) rfl; have r1 := blk_at R0.out (j := 1) rfl; have r2 := blk_at R0.out (j := 2) rfl; have rf := blk_free R0.out
          refine wpAnyH_ready (rs := [9]) (by kernel_rfl) (by simp) ?_
          refine AllReadyH.cons (o := ?_) (by simp only [List.getElem?_toArray, List.getElem?_cons_succ, List.getElem?_cons_zero]; rfl) (fun K hK => ?_) AllReadyH.nil
          go_simp
          obtain ⟨V, hV⟩ : ∃ V, V = (((v0cczc.setCell ⟨r, 0, none⟩ (.slice A9 rn c9)).setCell ⟨r, 1, none⟩ (.int .i64 rk)).setCell ⟨r, 2, none⟩ (.slice D9 rm d9)) := ⟨_, rfl⟩
          have BV := Lib.hid (show Below U.heap.size U V by rw [hV]; exact below_out3 Bv0cczc.out (by have := RR.out; omega) _ _ _)
          have R9 := Lib.hid (show V.heap[r]? = some (Obj.cells #[.slice A9 rn c9, .int .i64 rk, .slice D9 rm d9] 31 (0, 0)) by rw [hV]; exact blk_set3 R0.out _ _ _)
          have H9 := Lib.hid (show BooksO V v0ccz.heap.size v0cczc.heap.size _ _ _ _ _ _ by rw [hV]; exact BooksO.out3 O9.out R0.out _ _ _)
          have sV : v0cczc.heap.size ≤ V.heap.size := by rw [hV]; simp [World.setCell]
          rw [← hV]
          clear hV r0 r1 r2 rf
          refine hK.out _ _ (SO1.out V (blk_keep BV.out QA.out) (blk_keep BV.out EA.out)) (fun hHeld => ?_)
          clear hK K
          (try simp only [Act.put, List.setIfInBounds_toArray, List.set_cons_zero, List.set_cons_succ])
          refine wpAnyH_done (by kernel_rfl) ?_ _
          refine CutPost.step (o := ?_) (by simp only [List.getElem?_toArray, List.getElem?_cons_succ, List.getElem?_cons_zero]; rfl) (fun K hK => ?_)
          go_simp
          refine hK _ _ ?_
          clear hK K
          (try simp only [Act.put, List.setIfInBounds_toArray, List.set_cons_zero, List.set_cons_succ])
          go_wp2_with fail
          go_meet
          exact ⟨A9, c9, D9, d9, r, v0ccz.heap.size, v0cczc.heap.size, rfl, rfl, R9, H9, by omega, by have := RR.out; omega, by omega, by omega, by have := RR.out; omega, BV⟩
      ·
        go_simp
        obtain ⟨v0cz, hv0cz⟩ : ∃ v0cz, v0cz = v0c.alloc (Obj.cells #[.slice none 0 0, .int .i64 0, .slice none 0 0] 31) := ⟨_, rfl⟩
        have Bv0cz := Lib.hid (show Below U.heap.size U v0cz by rw [hv0cz]; exact Bv0c.out.alloc Bv0c.out.size _)
        have bv0cz := Lib.hid (show Below v0c.heap.size v0c v0cz by rw [hv0cz]; exact below_box _ _)
        have Hv0czs : v0c.heap.size + 1 ≤ v0cz.heap.size := by rw [hv0cz]; exact Nat.le_of_eq (World.size_alloc _ _).symm
        obtain ⟨r, hr0⟩ : ∃ r, r = v0c.heap.size := ⟨_, rfl⟩
        have R0 := Lib.hid (show v0cz.heap[r]? = some (Obj.cells #[.slice none 0 0, .int .i64 0, .slice none 0 0] 31 (0, 0)) by rw [hv0cz, hr0]; exact blk_new1 _ _)
        have O1 := Lib.hid (O1.out.below bv0cz.out)
        rw [← hv0cz, ← hr0]
        have RR := Lib.hid hr0
        clear hr0
        refine hK.out _ _ (SO1.out v0cz (blk_keep Bv0cz.out QA.out) (blk_keep Bv0cz.out EA.out)) (fun hHeld => ?_)
        clear hK K
        (try simp only [Act.put, List.setIfInBounds_toArray, List.set_cons_zero, List.set_cons_succ])
        clear hv0cz
        refine wpAnyH_ready (rs := [3]) (by kernel_rfl) (by simp) ?_
        refine AllReadyH.cons (o := ?_) (by simp only [List.getElem?_toArray, List.getElem?_cons_succ, List.getElem?_cons_zero]; rfl) (fun K hK => ?_) AllReadyH.nil
        go_simp
        (go_at_call 25; refine (toEvent_any ⟨id, day, kind, item, eq, ea, er⟩ _).mono ?_; rintro r' v0czc ⟨rfl, hbv0czc⟩)
        go_wp2_with fail
        have Bv0czc := Lib.hid (below_app Bv0cz.out hbv0czc Bv0cz.out.size)
        have Hv0czcs := hbv0czc.size
        have O1 := Lib.hid (O1.out.below hbv0czc)
        have R0 := Lib.hid (blk_keep hbv0czc R0.out)
        refine hK.out _ _ (SO1.out v0czc (blk_keep Bv0czc.out QA.out) (blk_keep Bv0czc.out EA.out)) (fun hHeld => ?_)
        clear hK K
        (try simp only [Act.put, List.setIfInBounds_toArray, List.set_cons_zero, List.set_cons_succ])
        refine wpAnyH_ready (rs := [4]) (by kernel_rfl) (by simp) ?_
        refine AllReadyH.cons (o := ?_) (by simp only [List.getElem?_toArray, List.getElem?_cons_succ, List.getElem?_cons_zero]; rfl) (fun K hK => ?_) AllReadyH.nil
        go_simp
        (go_at_call 24; refine (specBookEv' _ _ _ k _ _ _ ss ds ⟨id, day, kind, item, eq, ea, er⟩ _ rn rm rk rc rs rd RX.out RN.out RM.out O1.out.shelves O1.out.docs t1 t2 SH.out DO.out hit).mono ?_; rintro r' v0czcc ⟨A9, c9, D9, d9, rfl, O9x, hbv0czcc⟩)
        go_wp2_with fail
        have Bv0czcc := Lib.hid (below_app Bv0czc.out hbv0czcc Bv0czc.out.size)
        have Hv0czccs := hbv0czcc.size
        have O1 := Lib.hid (O1.out.below hbv0czcc)
        have R0 := Lib.hid (blk_keep hbv0czcc R0.out)
        have O9 := Lib.hid O9x
        refine hK.out _ _ (SO1.out v0czcc (blk_keep Bv0czcc.out QA.out) (blk_keep Bv0czcc.out EA.out)) (fun hHeld => ?_)
        clear hK K
        (try simp only [Act.put, List.setIfInBounds_toArray, List.set_cons_zero, List.set_cons_succ])
        refine wpAnyH_take (i := 5) (oi := ?_) (v := ?_) (by simp only [List.getElem?_toArray, List.getElem?_cons_succ, List.getElem?_cons_zero]; rfl) (by kernel_rfl) (by kernel_rfl) (by kernel_rfl) ?_ (Or.inl ⟨by rfl, ?_⟩) hHeld ?_
        rotate_left 1
        focus exact CutPost.panic fun _ _ _ h => h
        focus (intro w hSw; (try dsimp only at hSw); go_simp; try with_reducible rfl)
        (try simp only [Act.put, List.setIfInBounds_toArray, List.set_cons_zero, List.set_cons_succ])
        refine wpAnyH_take (i := 6) (oi := ?_) (v := ?_) (by simp only [List.getElem?_toArray, List.getElem?_cons_succ, List.getElem?_cons_zero]; rfl) (by kernel_rfl) (by kernel_rfl) (by kernel_rfl) ?_ (Or.inl ⟨by rfl, ?_⟩) hHeld ?_
        rotate_left 1
        focus exact CutPost.panic fun _ _ _ h => h
        focus (intro w hSw; (try dsimp only at hSw); go_simp; try with_reducible rfl)
        (try simp only [Act.put, List.setIfInBounds_toArray, List.set_cons_zero, List.set_cons_succ])
        refine wpAnyH_take (i := 7) (oi := ?_) (v := ?_) (by simp only [List.getElem?_toArray, List.getElem?_cons_succ, List.getElem?_cons_zero]; rfl) (by kernel_rfl) (by kernel_rfl) (by kernel_rfl) ?_ (Or.inl ⟨by rfl, ?_⟩) hHeld ?_
        rotate_left 1
        focus exact CutPost.panic fun _ _ _ h => h
        focus (intro w hSw; (try dsimp only at hSw); go_simp; try with_reducible rfl)
        (try simp only [Act.put, List.setIfInBounds_toArray, List.set_cons_zero, List.set_cons_succ])
        have r0 := blk_at R0.out (j := 0) rfl; have r1 := blk_at R0.out (j := 1) rfl; have r2 := blk_at R0.out (j := 2) rfl; have rf := blk_free R0.out
        refine wpAnyH_ready (rs := [9]) (by kernel_rfl) (by simp) ?_
        refine AllReadyH.cons (o := ?_) (by simp only [List.getElem?_toArray, List.getElem?_cons_succ, List.getElem?_cons_zero]; rfl) (fun K hK => ?_) AllReadyH.nil
        go_simp
        obtain ⟨V, hV⟩ : ∃ V, V = (((v0czcc.setCell ⟨r, 0, none⟩ (.slice A9 rn c9)).setCell ⟨r, 1, none⟩ (.int .i64 rk)).setCell ⟨r, 2, none⟩ (.slice D9 rm d9)) := ⟨_, rfl⟩
        have BV := Lib.hid (show Below U.heap.size U V by rw [hV]; exact below_out3 Bv0czcc.out (by have := RR.out; omega) _ _ _)
        have R9 := Lib.hid (show V.heap[r]? = some (Obj.cells #[.slice A9 rn c9, .int .i64 rk, .slice D9 rm d9] 31 (0, 0)) by rw [hV]; exact blk_set3 R0.out _ _ _)
        have H9 := Lib.hid (show BooksO V v0czc.heap.size v0czcc.heap.size _ _ _ _ _ _ by rw [hV]; exact BooksO.out3 O9.out R0.out _ _ _)
        have sV : v0czcc.heap.size ≤ V.heap.size := by rw [hV]; simp [World.setCell]
        rw [← hV]
        clear hV r0 r1 r2 rf
        refine hK.out _ _ (SO1.out V (blk_keep BV.out QA.out) (blk_keep BV.out EA.out)) (fun hHeld => ?_)
        clear hK K
        (try simp only [Act.put, List.setIfInBounds_toArray, List.set_cons_zero, List.set_cons_succ])
        refine wpAnyH_done (by kernel_rfl) ?_ _
        refine CutPost.step (o := ?_) (by simp only [List.getElem?_toArray, List.getElem?_cons_succ, List.getElem?_cons_zero]; rfl) (fun K hK => ?_)
        go_simp
        refine hK _ _ ?_
        clear hK K
        (try simp only [Act.put, List.setIfInBounds_toArray, List.set_cons_zero, List.set_cons_succ])
        go_wp2_with fail
        go_meet
        exact ⟨A9, c9, D9, d9, r, v0czc.heap.size, v0czcc.heap.size, rfl, rfl, R9, H9, by omega, by have := RR.out; omega, by omega, by omega, by have := RR.out; omega, BV⟩
    ·
      go_simp
      obtain ⟨v0z, hv0z⟩ : ∃ v0z, v0z = v0.alloc (Obj.cells #[.slice none 0 0, .int .i64 0, .slice none 0 0] 31) := ⟨_, rfl⟩
      have Bv0z := Lib.hid (show Below U.heap.size U v0z by rw [hv0z]; exact Bv0.out.alloc Bv0.out.size _)
      have bv0z := Lib.hid (show Below v0.heap.size v0 v0z by rw [hv0z]; exact below_box _ _)
      have Hv0zs : v0.heap.size + 1 ≤ v0z.heap.size := by rw [hv0z]; exact Nat.le_of_eq (World.size_alloc _ _).symm
      obtain ⟨r, hr0⟩ : ∃ r, r = v0.heap.size := ⟨_, rfl⟩
      have R0 := Lib.hid (show v0z.heap[r]? = some (Obj.cells #[.slice none 0 0, .int .i64 0, .slice none 0 0] 31 (0, 0)) by rw [hv0z, hr0]; exact blk_new1 _ _)
      rw [← hv0z, ← hr0]
      have RR := Lib.hid hr0
      clear hr0
      refine hK.out _ _ (SO1.out v0z (blk_keep Bv0z.out QA.out) (blk_keep Bv0z.out EA.out)) (fun hHeld => ?_)
      clear hK K
      (try simp only [Act.put, List.setIfInBounds_toArray, List.set_cons_zero, List.set_cons_succ])
      clear hv0z
      refine wpAnyH_ready (rs := [1]) (by kernel_rfl) (by simp) ?_
      refine AllReadyH.cons (o := ?_) (by simp only [List.getElem?_toArray, List.getElem?_cons_succ, List.getElem?_cons_zero]; rfl) (fun K hK => ?_) AllReadyH.nil
      go_simp
      (go_at_call 12; refine (toBooks_any _ _ _ k _ _ _ ss ds _ (hr.below (BZ.out.trans (Bv0z.out.mono NZ))) (hd.below (BZ.out.trans (Bv0z.out.mono NZ))) q1 q2 Q34.out.1 Q34.out.2).mono ?_; rintro r' v0zc ⟨A1, c1, D1, d1, rfl, O1x, hbv0zc⟩)
      go_wp2_with fail
      have Bv0zc := Lib.hid (below_app Bv0z.out hbv0zc Bv0z.out.size)
      have Hv0zcs := hbv0zc.size
      have R0 := Lib.hid (blk_keep hbv0zc R0.out)
      have O1 := Lib.hid O1x
      refine hK.out _ _ (SO1.out v0zc (blk_keep Bv0zc.out QA.out) (blk_keep Bv0zc.out EA.out)) (fun hHeld => ?_)
      clear hK K
      (try simp only [Act.put, List.setIfInBounds_toArray, List.set_cons_zero, List.set_cons_succ])
      refine wpAnyH_ready (rs := [3]) (by kernel_rfl) (by simp) ?_
      refine AllReadyH.cons (o := ?_) (by simp only [List.getElem?_toArray, List.getElem?_cons_succ, List.getElem?_cons_zero]; rfl) (fun K hK => ?_) AllReadyH.nil
      go_simp
      (go_at_call 25; refine (toEvent_any ⟨id, day, kind, item, eq, ea, er⟩ _).mono ?_; rintro r' v0zcc ⟨rfl, hbv0zcc⟩)
      go_wp2_with fail
      have Bv0zcc := Lib.hid (below_app Bv0zc.out hbv0zcc Bv0zc.out.size)
      have Hv0zccs := hbv0zcc.size
      have O1 := Lib.hid (O1.out.below hbv0zcc)
      have R0 := Lib.hid (blk_keep hbv0zcc R0.out)
      refine hK.out _ _ (SO1.out v0zcc (blk_keep Bv0zcc.out QA.out) (blk_keep Bv0zcc.out EA.out)) (fun hHeld => ?_)
      clear hK K
      (try simp only [Act.put, List.setIfInBounds_toArray, List.set_cons_zero, List.set_cons_succ])
      refine wpAnyH_ready (rs := [4]) (by kernel_rfl) (by simp) ?_
      refine AllReadyH.cons (o := ?_) (by simp only [List.getElem?_toArray, List.getElem?_cons_succ, List.getElem?_cons_zero]; rfl) (fun K hK => ?_) AllReadyH.nil
      go_simp
      (go_at_call 24; refine (specBookEv' _ _ _ k _ _ _ ss ds ⟨id, day, kind, item, eq, ea, er⟩ _ rn rm rk rc rs rd RX.out RN.out RM.out O1.out.shelves O1.out.docs t1 t2 SH.out DO.out hit).mono ?_; rintro r' v0zccc ⟨A9, c9, D9, d9, rfl, O9x, hbv0zccc⟩)
      go_wp2_with fail
      have Bv0zccc := Lib.hid (below_app Bv0zcc.out hbv0zccc Bv0zcc.out.size)
      have Hv0zcccs := hbv0zccc.size
      have O1 := Lib.hid (O1.out.below hbv0zccc)
      have R0 := Lib.hid (blk_keep hbv0zccc R0.out)
      have O9 := Lib.hid O9x
      refine hK.out _ _ (SO1.out v0zccc (blk_keep Bv0zccc.out QA.out) (blk_keep Bv0zccc.out EA.out)) (fun hHeld => ?_)
      clear hK K
      (try simp only [Act.put, List.setIfInBounds_toArray, List.set_cons_zero, List.set_cons_succ])
      refine wpAnyH_take (i := 5) (oi := ?_) (v := ?_) (by simp only [List.getElem?_toArray, List.getElem?_cons_succ, List.getElem?_cons_zero]; rfl) (by kernel_rfl) (by kernel_rfl) (by kernel_rfl) ?_ (Or.inl ⟨by rfl, ?_⟩) hHeld ?_
      rotate_left 1
      focus exact CutPost.panic fun _ _ _ h => h
      focus (intro w hSw; (try dsimp only at hSw); go_simp; try with_reducible rfl)
      (try simp only [Act.put, List.setIfInBounds_toArray, List.set_cons_zero, List.set_cons_succ])
      refine wpAnyH_take (i := 6) (oi := ?_) (v := ?_) (by simp only [List.getElem?_toArray, List.getElem?_cons_succ, List.getElem?_cons_zero]; rfl) (by kernel_rfl) (by kernel_rfl) (by kernel_rfl) ?_ (Or.inl ⟨by rfl, ?_⟩) hHeld ?_
      rotate_left 1
      focus exact CutPost.panic fun _ _ _ h => h
      focus (intro w hSw; (try dsimp only at hSw); go_simp; try with_reducible rfl)
      (try simp only [Act.put, List.setIfInBounds_toArray, List.set_cons_zero, List.set_cons_succ])
      refine wpAnyH_take (i := 7) (oi := ?_) (v := ?_) (by simp only [List.getElem?_toArray, List.getElem?_cons_succ, List.getElem?_cons_zero]; rfl) (by kernel_rfl) (by kernel_rfl) (by kernel_rfl) ?_ (Or.inl ⟨by rfl, ?_⟩) hHeld ?_
      rotate_left 1
      focus exact CutPost.panic fun _ _ _ h => h
      focus (intro w hSw; (try dsimp only at hSw); go_simp; try with_reducible rfl)
      (try simp only [Act.put, List.setIfInBounds_toArray, List.set_cons_zero, List.set_cons_succ])
      have r0 := blk_at R0.out (j := 0) rfl; have r1 := blk_at R0.out (j := 1) rfl; have r2 := blk_at R0.out (j := 2) rfl; have rf := blk_free R0.out
      refine wpAnyH_ready (rs := [9]) (by kernel_rfl) (by simp) ?_
      refine AllReadyH.cons (o := ?_) (by simp only [List.getElem?_toArray, List.getElem?_cons_succ, List.getElem?_cons_zero]; rfl) (fun K hK => ?_) AllReadyH.nil
      go_simp
      obtain ⟨V, hV⟩ : ∃ V, V = (((v0zccc.setCell ⟨r, 0, none⟩ (.slice A9 rn c9)).setCell ⟨r, 1, none⟩ (.int .i64 rk)).setCell ⟨r, 2, none⟩ (.slice D9 rm d9)) := ⟨_, rfl⟩
      have BV := Lib.hid (show Below U.heap.size U V by rw [hV]; exact below_out3 Bv0zccc.out (by have := RR.out; omega) _ _ _)
      have R9 := Lib.hid (show V.heap[r]? = some (Obj.cells #[.slice A9 rn c9, .int .i64 rk, .slice D9 rm d9] 31 (0, 0)) by rw [hV]; exact blk_set3 R0.out _ _ _)
      have H9 := Lib.hid (show BooksO V v0zcc.heap.size v0zccc.heap.size _ _ _ _ _ _ by rw [hV]; exact BooksO.out3 O9.out R0.out _ _ _)
      have sV : v0zccc.heap.size ≤ V.heap.size := by rw [hV]; simp [World.setCell]
      rw [← hV]
      clear hV r0 r1 r2 rf
      refine hK.out _ _ (SO1.out V (blk_keep BV.out QA.out) (blk_keep BV.out EA.out)) (fun hHeld => ?_)
      clear hK K
      (try simp only [Act.put, List.setIfInBounds_toArray, List.set_cons_zero, List.set_cons_succ])
      refine wpAnyH_done (by kernel_rfl) ?_ _
      refine CutPost.step (o := ?_) (by simp only [List.getElem?_toArray, List.getElem?_cons_succ, List.getElem?_cons_zero]; rfl) (fun K hK => ?_)
      go_simp
      refine hK _ _ ?_
      clear hK K
      (try simp only [Act.put, List.setIfInBounds_toArray, List.set_cons_zero, List.set_cons_succ])
      go_wp2_with fail
      go_meet
      exact ⟨A9, c9, D9, d9, r, v0zcc.heap.size, v0zccc.heap.size, rfl, rfl, R9, H9, by omega, by have := RR.out; omega, by omega, by omega, by have := RR.out; omega, BV⟩
  case rest =>
    obtain ⟨A6, c6, D6, d6, r6, lo6, hi6, rfl, rfl, R6, H6, a1, a2, a3, a4, a5, b6⟩ := hcut
    obtain ⟨U2, hU2⟩ : ∃ U2, U2 = wc := ⟨_, rfl⟩
    rw [← hU2] at R6 H6 a4 b6 ⊢
    clear hU2
    have r6l : r6 < U2.heap.size := (Array.getElem?_eq_some_iff.1 R6.out).1
    have eal : w.heap.size + 1 < U.heap.size := (Array.getElem?_eq_some_iff.1 EA.out).1
    have QA := Lib.hid (blk_keep b6.out QA.out)
    have EA := Lib.hid (blk_keep b6.out EA.out)
    have BZ := Lib.hid (below_app BZ.out b6.out NZ)
    have NZ : w.heap.size ≤ U2.heap.size := BZ.out.size
    have U2s := b6.out.size
    have x0 := blk_at QA.out (j := 0) rfl; have x1 := blk_at QA.out (j := 1) rfl; have x2 := blk_at QA.out (j := 2) rfl
    go_wp2_with fail
    refine (toBooks_any _ _ _ k _ _ _ ss ds _ (hr.below BZ.out) (hd.below BZ.out) q1 q2 Q34.out.1 Q34.out.2).mono ?_; rintro r' w3 ⟨A8, c8, D8, d8, rfl, OX, hw3⟩
    have OX := Lib.hid OX
    have QA := Lib.hid (blk_keep hw3 QA.out)
    have EA := Lib.hid (blk_keep hw3 EA.out)
    have R6 := Lib.hid (blk_keep hw3 R6.out)
    have H6 := Lib.hid (H6.out.below hw3)
    have BZ := Lib.hid (below_app BZ.out hw3 NZ)
    have NZ : w.heap.size ≤ w3.heap.size := BZ.out.size
    have w3s := hw3.size
    clear x0 x1 x2
    go_upto_region 10 with fail
    obtain ⟨U3, hU3⟩ : ∃ U3, U3 = w3.alloc (Obj.cells #[.slice A8 sn c8, .int .i64 k, .slice D8 dn d8] 31) := ⟨_, rfl⟩
    obtain ⟨r8, hr8⟩ : ∃ r8, r8 = w3.heap.size := ⟨_, rfl⟩
    have X8 := Lib.hid (show U3.heap[r8]? = some (Obj.cells #[.slice A8 sn c8, .int .i64 k, .slice D8 dn d8] 31 (0, 0)) by rw [hU3, hr8]; exact blk_new1 _ _)
    have hw4 : Below w3.heap.size w3 U3 := by rw [hU3]; exact below_box _ _
    rw [← hU3, ← hr8]
    have R8 := Lib.hid hr8
    clear hU3 hr8
    have QA := Lib.hid (blk_keep hw4 QA.out)
    have EA := Lib.hid (blk_keep hw4 EA.out)
    have R6 := Lib.hid (blk_keep hw4 R6.out)
    have H6 := Lib.hid (H6.out.below hw4)
    have OX := Lib.hid (OX.out.below hw4)
    have BZ := Lib.hid (below_app BZ.out hw4 NZ)
    have NZ : w.heap.size ≤ U3.heap.size := BZ.out.size
    have U3s := hw4.size
    have sOx : ∀ v : World, v.heap[r8]? = some (Obj.cells #[.slice A8 sn c8, .int .i64 k, .slice D8 dn d8] 31 (0, 0)) → v.heap[w.heap.size + 1]? = some (Obj.cells #[.int .i64 id, .int .i64 day, .int .i64 kind, .string item, .int .i64 eq, .int .i64 ea, .int .i64 er] 40 (0, 0)) → (v.cell? ⟨r8, 0, none⟩ = some (.slice A8 sn c8) ∧ v.cell? ⟨r8, 1, none⟩ = some (.int .i64 k) ∧ v.cell? ⟨r8, 2, none⟩ = some (.slice D8 dn d8)) ∧ v.cell? ⟨w.heap.size + 1, 0, none⟩ = some (.int .i64 id) ∧ v.cell? ⟨w.heap.size + 1, 1, none⟩ = some (.int .i64 day) ∧ v.cell? ⟨w.heap.size + 1, 2, none⟩ = some (.int .i64 kind) ∧ v.cell? ⟨w.heap.size + 1, 3, none⟩ = some (.string item) ∧ v.cell? ⟨w.heap.size + 1, 4, none⟩ = some (.int .i64 eq) ∧ v.cell? ⟨w.heap.size + 1, 5, none⟩ = some (.int .i64 ea) ∧ v.cell? ⟨w.heap.size + 1, 6, none⟩ = some (.int .i64 er) :=
      fun v h1 h2 => ⟨⟨blk_at h1 rfl, blk_at h1 rfl, blk_at h1 rfl⟩, lawCells (e := ⟨id, day, kind, item, eq, ea, er⟩) h2⟩
    have SOX := Lib.hid sOx; clear sOx
    go_upto_region 10 with fail
    go_cut [9, 10] (fun s1 s2 wx => ∃ (A : Option Addr) (c : Nat) (D : Option Addr) (d r lo hi : Nat), s1 = .pointer (some ⟨r, 0, none⟩) ∧ s2 = .int .i64 rc ∧ Hid (wx.heap[r]? = some (Obj.cells #[.slice A rn c, .int .i64 rk, .slice D rm d] 31 (0, 0))) ∧ Hid (BooksO wx lo hi (.slice A rn c) rn rs (.slice D rm d) rm rd) ∧ U3.heap.size ≤ lo ∧ U3.heap.size ≤ r ∧ lo ≤ hi ∧ hi ≤ wx.heap.size ∧ (r < lo ∨ hi ≤ r) ∧ Hid (Below U3.heap.size U3 wx))
    case first =>
      refine wp_region_cut (S := fun v => (v.cell? ⟨r8, 0, none⟩ = some (.slice A8 sn c8) ∧ v.cell? ⟨r8, 1, none⟩ = some (.int .i64 k) ∧ v.cell? ⟨r8, 2, none⟩ = some (.slice D8 dn d8)) ∧ v.cell? ⟨w.heap.size + 1, 0, none⟩ = some (.int .i64 id) ∧ v.cell? ⟨w.heap.size + 1, 1, none⟩ = some (.int .i64 day) ∧ v.cell? ⟨w.heap.size + 1, 2, none⟩ = some (.int .i64 kind) ∧ v.cell? ⟨w.heap.size + 1, 3, none⟩ = some (.string item) ∧ v.cell? ⟨w.heap.size + 1, 4, none⟩ = some (.int .i64 eq) ∧ v.cell? ⟨w.heap.size + 1, 5, none⟩ = some (.int .i64 ea) ∧ v.cell? ⟨w.heap.size + 1, 6, none⟩ = some (.int .i64 er)) 9 (by kernel_rfl) (by kernel_rfl) (by simp only [List.pop_toArray, List.dropLast_cons_cons, List.dropLast_singleton]; rfl) (SOX.out U3.drew X8.out EA.out) (fun hHeld => ?_)
      obtain ⟨v0, hv0⟩ : ∃ v0, v0 = U3.drew := ⟨_, rfl⟩
      rw [← hv0] at hHeld ⊢
      have Bv0 := Lib.hid (show Below U3.heap.size U3 v0 by rw [hv0]; exact (Below.refl _ _).drew)
      have Hv0s := Bv0.out.size
      clear hv0
      have O1 := Lib.hid (OX.out.below Bv0.out)
      refine wpAnyH_take (i := 0) (oi := ?_) (v := ?_) (by simp only [List.getElem?_toArray, List.getElem?_cons_zero]; rfl) (by kernel_rfl) (by kernel_rfl) (by kernel_rfl) ?_ (Or.inl ⟨by rfl, ?_⟩) hHeld ?_
      rotate_left 1
      focus exact CutPost.panic fun _ _ _ h => h
      focus (intro w hSw; (try dsimp only at hSw); go_simp; try with_reducible rfl)
      (try simp only [Act.put, List.setIfInBounds_toArray, List.set_cons_zero, List.set_cons_succ])
      refine wpAnyH_take (i := 1) (oi := ?_) (v := ?_) (by simp only [List.getElem?_toArray, List.getElem?_cons_succ, List.getElem?_cons_zero]; rfl) (by kernel_rfl) (by kernel_rfl) (by kernel_rfl) ?_ (Or.inl ⟨by rfl, ?_⟩) hHeld ?_
      rotate_left 1
      focus exact CutPost.panic fun _ _ _ h => h
      focus (intro w hSw; (try dsimp only at hSw); go_simp; try with_reducible rfl)
      (try simp only [Act.put, List.setIfInBounds_toArray, List.set_cons_zero, List.set_cons_succ])
      refine wpAnyH_ready (rs := [2, 7]) (by kernel_rfl) (by simp) ?_
      refine AllReadyH.cons (o := ?_) (by simp only [List.getElem?_toArray, List.getElem?_cons_succ, List.getElem?_cons_zero]; rfl) (fun K hK => ?_) (AllReadyH.cons (o := ?_) (by simp only [List.getElem?_toArray, List.getElem?_cons_succ, List.getElem?_cons_zero]; rfl) (fun K hK => ?_) AllReadyH.nil)
      ·
        go_simp
        (go_at_call 25; refine (toEvent_any ⟨id, day, kind, item, eq, ea, er⟩ _).mono ?_; rintro r' v0c ⟨rfl, hbv0c⟩)
        go_wp2_with fail
        have Bv0c := Lib.hid (below_app Bv0.out hbv0c Bv0.out.size)
        have Hv0cs := hbv0c.size
        have O1 := Lib.hid (O1.out.below hbv0c)
        refine hK.out _ _ (SOX.out v0c (blk_keep Bv0c.out X8.out) (blk_keep Bv0c.out EA.out)) (fun hHeld => ?_)
        clear hK K
        (try simp only [Act.put, List.setIfInBounds_toArray, List.set_cons_zero, List.set_cons_succ])
        refine wpAnyH_ready (rs := [3, 7]) (by kernel_rfl) (by simp) ?_
        refine AllReadyH.cons (o := ?_) (by simp only [List.getElem?_toArray, List.getElem?_cons_succ, List.getElem?_cons_zero]; rfl) (fun K hK => ?_) (AllReadyH.cons (o := ?_) (by simp only [List.getElem?_toArray, List.getElem?_cons_succ, List.getElem?_cons_zero]; rfl) (fun K hK => ?_) AllReadyH.nil)
        ·
          go_simp
          (go_at_call 26; refine (implBookEv' _ _ _ k _ _ _ ss ds ⟨id, day, kind, item, eq, ea, er⟩ _ rn rm rk rc rs rd RX.out RN.out RM.out O1.out.shelves O1.out.docs t1 t2 SH.out DO.out hit).mono ?_; rintro r' v0cc ⟨A9, c9, D9, d9, rfl, O9x, hbv0cc⟩)
          go_wp2_with fail
          have Bv0cc := Lib.hid (below_app Bv0c.out hbv0cc Bv0c.out.size)
          have Hv0ccs := hbv0cc.size
          have O1 := Lib.hid (O1.out.below hbv0cc)
          have O9 := Lib.hid O9x
          refine hK.out _ _ (SOX.out v0cc (blk_keep Bv0cc.out X8.out) (blk_keep Bv0cc.out EA.out)) (fun hHeld => ?_)
          clear hK K
          (try simp only [Act.put, List.setIfInBounds_toArray, List.set_cons_zero, List.set_cons_succ])
          refine wpAnyH_take (i := 4) (oi := ?_) (v := ?_) (by simp only [List.getElem?_toArray, List.getElem?_cons_succ, List.getElem?_cons_zero]; rfl) (by kernel_rfl) (by kernel_rfl) (by kernel_rfl) ?_ (Or.inl ⟨by rfl, ?_⟩) hHeld ?_
          rotate_left 1
          focus exact CutPost.panic fun _ _ _ h => h
          focus (intro w hSw; (try dsimp only at hSw); go_simp; try with_reducible rfl)
          (try simp only [Act.put, List.setIfInBounds_toArray, List.set_cons_zero, List.set_cons_succ])
          refine wpAnyH_take (i := 5) (oi := ?_) (v := ?_) (by simp only [List.getElem?_toArray, List.getElem?_cons_succ, List.getElem?_cons_zero]; rfl) (by kernel_rfl) (by kernel_rfl) (by kernel_rfl) ?_ (Or.inl ⟨by rfl, ?_⟩) hHeld ?_
          rotate_left 1
          focus exact CutPost.panic fun _ _ _ h => h
          focus (intro w hSw; (try dsimp only at hSw); go_simp; try with_reducible rfl)
          (try simp only [Act.put, List.setIfInBounds_toArray, List.set_cons_zero, List.set_cons_succ])
          refine wpAnyH_take (i := 6) (oi := ?_) (v := ?_) (by simp only [List.getElem?_toArray, List.getElem?_cons_succ, List.getElem?_cons_zero]; rfl) (by kernel_rfl) (by kernel_rfl) (by kernel_rfl) ?_ (Or.inl ⟨by rfl, ?_⟩) hHeld ?_
          rotate_left 1
          focus exact CutPost.panic fun _ _ _ h => h
          focus (intro w hSw; (try dsimp only at hSw); go_simp; try with_reducible rfl)
          (try simp only [Act.put, List.setIfInBounds_toArray, List.set_cons_zero, List.set_cons_succ])
          refine wpAnyH_ready (rs := [7]) (by kernel_rfl) (by simp) ?_
          refine AllReadyH.cons (o := ?_) (by simp only [List.getElem?_toArray, List.getElem?_cons_succ, List.getElem?_cons_zero]; rfl) (fun K hK => ?_) AllReadyH.nil
          go_simp
          obtain ⟨v0ccz, hv0ccz⟩ : ∃ v0ccz, v0ccz = v0cc.alloc (Obj.cells #[.slice none 0 0, .int .i64 0, .slice none 0 0] 31) := ⟨_, rfl⟩
          have Bv0ccz := Lib.hid (show Below U3.heap.size U3 v0ccz by rw [hv0ccz]; exact Bv0cc.out.alloc Bv0cc.out.size _)
          have bv0ccz := Lib.hid (show Below v0cc.heap.size v0cc v0ccz by rw [hv0ccz]; exact below_box _ _)
          have Hv0cczs : v0cc.heap.size + 1 ≤ v0ccz.heap.size := by rw [hv0ccz]; exact Nat.le_of_eq (World.size_alloc _ _).symm
          obtain ⟨r, hr0⟩ : ∃ r, r = v0cc.heap.size := ⟨_, rfl⟩
          have R0 := Lib.hid (show v0ccz.heap[r]? = some (Obj.cells #[.slice none 0 0, .int .i64 0, .slice none 0 0] 31 (0, 0)) by rw [hv0ccz, hr0]; exact blk_new1 _ _)
          have O1 := Lib.hid (O1.out.below bv0ccz.out)
          have O9 := Lib.hid (O9.out.below bv0ccz.out)
          rw [← hv0ccz, ← hr0]
          have RR := Lib.hid hr0
          clear hr0
          refine hK.out _ _ (SOX.out v0ccz (blk_keep Bv0ccz.out X8.out) (blk_keep Bv0ccz.out EA.out)) (fun hHeld => ?_)
          clear hK K
          (try simp only [Act.put, List.setIfInBounds_toArray, List.set_cons_zero, List.set_cons_succ])
          clear hv0ccz
          have r0 := blk_at R0.out (j := 0) rfl; have r1 := blk_at R0.out (j := 1) rfl; have r2 := blk_at R0.out (j := 2) rfl; have rf := blk_free R0.out
          refine wpAnyH_ready (rs := [8]) (by kernel_rfl) (by simp) ?_
          refine AllReadyH.cons (o := ?_) (by simp only [List.getElem?_toArray, List.getElem?_cons_succ, List.getElem?_cons_zero]; rfl) (fun K hK => ?_) AllReadyH.nil
          go_simp
          obtain ⟨V, hV⟩ : ∃ V, V = (((v0ccz.setCell ⟨r, 0, none⟩ (.slice A9 rn c9)).setCell ⟨r, 1, none⟩ (.int .i64 rk)).setCell ⟨r, 2, none⟩ (.slice D9 rm d9)) := ⟨_, rfl⟩
          have BV := Lib.hid (show Below U3.heap.size U3 V by rw [hV]; exact below_out3 Bv0ccz.out (by have := RR.out; omega) _ _ _)
          have R9 := Lib.hid (show V.heap[r]? = some (Obj.cells #[.slice A9 rn c9, .int .i64 rk, .slice D9 rm d9] 31 (0, 0)) by rw [hV]; exact blk_set3 R0.out _ _ _)
          have H9 := Lib.hid (show BooksO V v0c.heap.size v0cc.heap.size _ _ _ _ _ _ by rw [hV]; exact BooksO.out3 O9.out R0.out _ _ _)
          have sV : v0ccz.heap.size ≤ V.heap.size := by rw [hV]; simp [World.setCell]
          rw [← hV]
          clear hV r0 r1 r2 rf
          refine hK.out _ _ (SOX.out V (blk_keep BV.out X8.out) (blk_keep BV.out EA.out)) (fun hHeld => ?_)
          clear hK K
          (try simp only [Act.put, List.setIfInBounds_toArray, List.set_cons_zero, List.set_cons_succ])
          refine wpAnyH_done (by kernel_rfl) ?_ _
          refine CutPost.step (o := ?_) (by simp only [List.getElem?_toArray, List.getElem?_cons_succ, List.getElem?_cons_zero]; rfl) (fun K hK => ?_)
          go_simp
          refine hK _ _ ?_
          clear hK K
          (try simp only [Act.put, List.setIfInBounds_toArray, List.set_cons_zero, List.set_cons_succ])
          go_wp2_with fail
          go_meet
          exact ⟨A9, c9, D9, d9, r, v0c.heap.size, v0cc.heap.size, rfl, rfl, R9, H9, by omega, by have := RR.out; omega, by omega, by omega, by have := RR.out; omega, BV⟩
        ·
          go_simp
          obtain ⟨v0cz, hv0cz⟩ : ∃ v0cz, v0cz = v0c.alloc (Obj.cells #[.slice none 0 0, .int .i64 0, .slice none 0 0] 31) := ⟨_, rfl⟩
          have Bv0cz := Lib.hid (show Below U3.heap.size U3 v0cz by rw [hv0cz]; exact Bv0c.out.alloc Bv0c.out.size _)
          have bv0cz := Lib.hid (show Below v0c.heap.size v0c v0cz by rw [hv0cz]; exact below_box _ _)
          have Hv0czs : v0c.heap.size + 1 ≤ v0cz.heap.size := by rw [hv0cz]; exact Nat.le_of_eq (World.size_alloc _ _).symm
          obtain ⟨r, hr0⟩ : ∃ r, r = v0c.heap.size := ⟨_, rfl⟩
          have R0 := Lib.hid (show v0cz.heap[r]? = some (Obj.cells #[.slice none 0 0, .int .i64 0, .slice none 0 0] 31 (0, 0)) by rw [hv0cz, hr0]; exact blk_new1 _ _)
          have O1 := Lib.hid (O1.out.below bv0cz.out)
          rw [← hv0cz, ← hr0]
          have RR := Lib.hid hr0
          clear hr0
          refine hK.out _ _ (SOX.out v0cz (blk_keep Bv0cz.out X8.out) (blk_keep Bv0cz.out EA.out)) (fun hHeld => ?_)
          clear hK K
          (try simp only [Act.put, List.setIfInBounds_toArray, List.set_cons_zero, List.set_cons_succ])
          clear hv0cz
          refine wpAnyH_ready (rs := [3]) (by kernel_rfl) (by simp) ?_
          refine AllReadyH.cons (o := ?_) (by simp only [List.getElem?_toArray, List.getElem?_cons_succ, List.getElem?_cons_zero]; rfl) (fun K hK => ?_) AllReadyH.nil
          go_simp
          (go_at_call 26; refine (implBookEv' _ _ _ k _ _ _ ss ds ⟨id, day, kind, item, eq, ea, er⟩ _ rn rm rk rc rs rd RX.out RN.out RM.out O1.out.shelves O1.out.docs t1 t2 SH.out DO.out hit).mono ?_; rintro r' v0czc ⟨A9, c9, D9, d9, rfl, O9x, hbv0czc⟩)
          go_wp2_with fail
          have Bv0czc := Lib.hid (below_app Bv0cz.out hbv0czc Bv0cz.out.size)
          have Hv0czcs := hbv0czc.size
          have O1 := Lib.hid (O1.out.below hbv0czc)
          have R0 := Lib.hid (blk_keep hbv0czc R0.out)
          have O9 := Lib.hid O9x
          refine hK.out _ _ (SOX.out v0czc (blk_keep Bv0czc.out X8.out) (blk_keep Bv0czc.out EA.out)) (fun hHeld => ?_)
          clear hK K
          (try simp only [Act.put, List.setIfInBounds_toArray, List.set_cons_zero, List.set_cons_succ])
          refine wpAnyH_take (i := 4) (oi := ?_) (v := ?_) (by simp only [List.getElem?_toArray, List.getElem?_cons_succ, List.getElem?_cons_zero]; rfl) (by kernel_rfl) (by kernel_rfl) (by kernel_rfl) ?_ (Or.inl ⟨by rfl, ?_⟩) hHeld ?_
          rotate_left 1
          focus exact CutPost.panic fun _ _ _ h => h
          focus (intro w hSw; (try dsimp only at hSw); go_simp; try with_reducible rfl)
          (try simp only [Act.put, List.setIfInBounds_toArray, List.set_cons_zero, List.set_cons_succ])
          refine wpAnyH_take (i := 5) (oi := ?_) (v := ?_) (by simp only [List.getElem?_toArray, List.getElem?_cons_succ, List.getElem?_cons_zero]; rfl) (by kernel_rfl) (by kernel_rfl) (by kernel_rfl) ?_ (Or.inl ⟨by rfl, ?_⟩) hHeld ?_
          rotate_left 1
          focus exact CutPost.panic fun _ _ _ h => h
          focus (intro w hSw; (try dsimp only at hSw); go_simp; try with_reducible rfl)
          (try simp only [Act.put, List.setIfInBounds_toArray, List.set_cons_zero, List.set_cons_succ])
          refine wpAnyH_take (i := 6) (oi := ?_) (v := ?_) (by simp only [List.getElem?_toArray, List.getElem?_cons_succ, List.getElem?_cons_zero]; rfl) (by kernel_rfl) (by kernel_rfl) (by kernel_rfl) ?_ (Or.inl ⟨by rfl, ?_⟩) hHeld ?_
          rotate_left 1
          focus exact CutPost.panic fun _ _ _ h => h
          focus (intro w hSw; (try dsimp only at hSw); go_simp; try with_reducible rfl)
          (try simp only [Act.put, List.setIfInBounds_toArray, List.set_cons_zero, List.set_cons_succ])
          have r0 := blk_at R0.out (j := 0) rfl; have r1 := blk_at R0.out (j := 1) rfl; have r2 := blk_at R0.out (j := 2) rfl; have rf := blk_free R0.out
          refine wpAnyH_ready (rs := [8]) (by kernel_rfl) (by simp) ?_
          refine AllReadyH.cons (o := ?_) (by simp only [List.getElem?_toArray, List.getElem?_cons_succ, List.getElem?_cons_zero]; rfl) (fun K hK => ?_) AllReadyH.nil
          go_simp
          obtain ⟨V, hV⟩ : ∃ V, V = (((v0czc.setCell ⟨r, 0, none⟩ (.slice A9 rn c9)).setCell ⟨r, 1, none⟩ (.int .i64 rk)).setCell ⟨r, 2, none⟩ (.slice D9 rm d9)) := ⟨_, rfl⟩
          have BV := Lib.hid (show Below U3.heap.size U3 V by rw [hV]; exact below_out3 Bv0czc.out (by have := RR.out; omega) _ _ _)
          have R9 := Lib.hid (show V.heap[r]? = some (Obj.cells #[.slice A9 rn c9, .int .i64 rk, .slice D9 rm d9] 31 (0, 0)) by rw [hV]; exact blk_set3 R0.out _ _ _)
          have H9 := Lib.hid (show BooksO V v0cz.heap.size v0czc.heap.size _ _ _ _ _ _ by rw [hV]; exact BooksO.out3 O9.out R0.out _ _ _)
          have sV : v0czc.heap.size ≤ V.heap.size := by rw [hV]; simp [World.setCell]
          rw [← hV]
          clear hV r0 r1 r2 rf
          refine hK.out _ _ (SOX.out V (blk_keep BV.out X8.out) (blk_keep BV.out EA.out)) (fun hHeld => ?_)
          clear hK K
          (try simp only [Act.put, List.setIfInBounds_toArray, List.set_cons_zero, List.set_cons_succ])
          refine wpAnyH_done (by kernel_rfl) ?_ _
          refine CutPost.step (o := ?_) (by simp only [List.getElem?_toArray, List.getElem?_cons_succ, List.getElem?_cons_zero]; rfl) (fun K hK => ?_)
          go_simp
          refine hK _ _ ?_
          clear hK K
          (try simp only [Act.put, List.setIfInBounds_toArray, List.set_cons_zero, List.set_cons_succ])
          go_wp2_with fail
          go_meet
          exact ⟨A9, c9, D9, d9, r, v0cz.heap.size, v0czc.heap.size, rfl, rfl, R9, H9, by omega, by have := RR.out; omega, by omega, by omega, by have := RR.out; omega, BV⟩
      ·
        go_simp
        obtain ⟨v0z, hv0z⟩ : ∃ v0z, v0z = v0.alloc (Obj.cells #[.slice none 0 0, .int .i64 0, .slice none 0 0] 31) := ⟨_, rfl⟩
        have Bv0z := Lib.hid (show Below U3.heap.size U3 v0z by rw [hv0z]; exact Bv0.out.alloc Bv0.out.size _)
        have bv0z := Lib.hid (show Below v0.heap.size v0 v0z by rw [hv0z]; exact below_box _ _)
        have Hv0zs : v0.heap.size + 1 ≤ v0z.heap.size := by rw [hv0z]; exact Nat.le_of_eq (World.size_alloc _ _).symm
        obtain ⟨r, hr0⟩ : ∃ r, r = v0.heap.size := ⟨_, rfl⟩
        have R0 := Lib.hid (show v0z.heap[r]? = some (Obj.cells #[.slice none 0 0, .int .i64 0, .slice none 0 0] 31 (0, 0)) by rw [hv0z, hr0]; exact blk_new1 _ _)
        have O1 := Lib.hid (O1.out.below bv0z.out)
        rw [← hv0z, ← hr0]
        have RR := Lib.hid hr0
        clear hr0
        refine hK.out _ _ (SOX.out v0z (blk_keep Bv0z.out X8.out) (blk_keep Bv0z.out EA.out)) (fun hHeld => ?_)
        clear hK K
        (try simp only [Act.put, List.setIfInBounds_toArray, List.set_cons_zero, List.set_cons_succ])
        clear hv0z
        refine wpAnyH_ready (rs := [2]) (by kernel_rfl) (by simp) ?_
        refine AllReadyH.cons (o := ?_) (by simp only [List.getElem?_toArray, List.getElem?_cons_succ, List.getElem?_cons_zero]; rfl) (fun K hK => ?_) AllReadyH.nil
        go_simp
        (go_at_call 25; refine (toEvent_any ⟨id, day, kind, item, eq, ea, er⟩ _).mono ?_; rintro r' v0zc ⟨rfl, hbv0zc⟩)
        go_wp2_with fail
        have Bv0zc := Lib.hid (below_app Bv0z.out hbv0zc Bv0z.out.size)
        have Hv0zcs := hbv0zc.size
        have O1 := Lib.hid (O1.out.below hbv0zc)
        have R0 := Lib.hid (blk_keep hbv0zc R0.out)
        refine hK.out _ _ (SOX.out v0zc (blk_keep Bv0zc.out X8.out) (blk_keep Bv0zc.out EA.out)) (fun hHeld => ?_)
        clear hK K
        (try simp only [Act.put, List.setIfInBounds_toArray, List.set_cons_zero, List.set_cons_succ])
        refine wpAnyH_ready (rs := [3]) (by kernel_rfl) (by simp) ?_
        refine AllReadyH.cons (o := ?_) (by simp only [List.getElem?_toArray, List.getElem?_cons_succ, List.getElem?_cons_zero]; rfl) (fun K hK => ?_) AllReadyH.nil
        go_simp
        (go_at_call 26; refine (implBookEv' _ _ _ k _ _ _ ss ds ⟨id, day, kind, item, eq, ea, er⟩ _ rn rm rk rc rs rd RX.out RN.out RM.out O1.out.shelves O1.out.docs t1 t2 SH.out DO.out hit).mono ?_; rintro r' v0zcc ⟨A9, c9, D9, d9, rfl, O9x, hbv0zcc⟩)
        go_wp2_with fail
        have Bv0zcc := Lib.hid (below_app Bv0zc.out hbv0zcc Bv0zc.out.size)
        have Hv0zccs := hbv0zcc.size
        have O1 := Lib.hid (O1.out.below hbv0zcc)
        have R0 := Lib.hid (blk_keep hbv0zcc R0.out)
        have O9 := Lib.hid O9x
        refine hK.out _ _ (SOX.out v0zcc (blk_keep Bv0zcc.out X8.out) (blk_keep Bv0zcc.out EA.out)) (fun hHeld => ?_)
        clear hK K
        (try simp only [Act.put, List.setIfInBounds_toArray, List.set_cons_zero, List.set_cons_succ])
        refine wpAnyH_take (i := 4) (oi := ?_) (v := ?_) (by simp only [List.getElem?_toArray, List.getElem?_cons_succ, List.getElem?_cons_zero]; rfl) (by kernel_rfl) (by kernel_rfl) (by kernel_rfl) ?_ (Or.inl ⟨by rfl, ?_⟩) hHeld ?_
        rotate_left 1
        focus exact CutPost.panic fun _ _ _ h => h
        focus (intro w hSw; (try dsimp only at hSw); go_simp; try with_reducible rfl)
        (try simp only [Act.put, List.setIfInBounds_toArray, List.set_cons_zero, List.set_cons_succ])
        refine wpAnyH_take (i := 5) (oi := ?_) (v := ?_) (by simp only [List.getElem?_toArray, List.getElem?_cons_succ, List.getElem?_cons_zero]; rfl) (by kernel_rfl) (by kernel_rfl) (by kernel_rfl) ?_ (Or.inl ⟨by rfl, ?_⟩) hHeld ?_
        rotate_left 1
        focus exact CutPost.panic fun _ _ _ h => h
        focus (intro w hSw; (try dsimp only at hSw); go_simp; try with_reducible rfl)
        (try simp only [Act.put, List.setIfInBounds_toArray, List.set_cons_zero, List.set_cons_succ])
        refine wpAnyH_take (i := 6) (oi := ?_) (v := ?_) (by simp only [List.getElem?_toArray, List.getElem?_cons_succ, List.getElem?_cons_zero]; rfl) (by kernel_rfl) (by kernel_rfl) (by kernel_rfl) ?_ (Or.inl ⟨by rfl, ?_⟩) hHeld ?_
        rotate_left 1
        focus exact CutPost.panic fun _ _ _ h => h
        focus (intro w hSw; (try dsimp only at hSw); go_simp; try with_reducible rfl)
        (try simp only [Act.put, List.setIfInBounds_toArray, List.set_cons_zero, List.set_cons_succ])
        have r0 := blk_at R0.out (j := 0) rfl; have r1 := blk_at R0.out (j := 1) rfl; have r2 := blk_at R0.out (j := 2) rfl; have rf := blk_free R0.out
        refine wpAnyH_ready (rs := [8]) (by kernel_rfl) (by simp) ?_
        refine AllReadyH.cons (o := ?_) (by simp only [List.getElem?_toArray, List.getElem?_cons_succ, List.getElem?_cons_zero]; rfl) (fun K hK => ?_) AllReadyH.nil
        go_simp
        obtain ⟨V, hV⟩ : ∃ V, V = (((v0zcc.setCell ⟨r, 0, none⟩ (.slice A9 rn c9)).setCell ⟨r, 1, none⟩ (.int .i64 rk)).setCell ⟨r, 2, none⟩ (.slice D9 rm d9)) := ⟨_, rfl⟩
        have BV := Lib.hid (show Below U3.heap.size U3 V by rw [hV]; exact below_out3 Bv0zcc.out (by have := RR.out; omega) _ _ _)
        have R9 := Lib.hid (show V.heap[r]? = some (Obj.cells #[.slice A9 rn c9, .int .i64 rk, .slice D9 rm d9] 31 (0, 0)) by rw [hV]; exact blk_set3 R0.out _ _ _)
        have H9 := Lib.hid (show BooksO V v0zc.heap.size v0zcc.heap.size _ _ _ _ _ _ by rw [hV]; exact BooksO.out3 O9.out R0.out _ _ _)
        have sV : v0zcc.heap.size ≤ V.heap.size := by rw [hV]; simp [World.setCell]
        rw [← hV]
        clear hV r0 r1 r2 rf
        refine hK.out _ _ (SOX.out V (blk_keep BV.out X8.out) (blk_keep BV.out EA.out)) (fun hHeld => ?_)
        clear hK K
        (try simp only [Act.put, List.setIfInBounds_toArray, List.set_cons_zero, List.set_cons_succ])
        refine wpAnyH_done (by kernel_rfl) ?_ _
        refine CutPost.step (o := ?_) (by simp only [List.getElem?_toArray, List.getElem?_cons_succ, List.getElem?_cons_zero]; rfl) (fun K hK => ?_)
        go_simp
        refine hK _ _ ?_
        clear hK K
        (try simp only [Act.put, List.setIfInBounds_toArray, List.set_cons_zero, List.set_cons_succ])
        go_wp2_with fail
        go_meet
        exact ⟨A9, c9, D9, d9, r, v0zc.heap.size, v0zcc.heap.size, rfl, rfl, R9, H9, by omega, by have := RR.out; omega, by omega, by omega, by have := RR.out; omega, BV⟩
    case rest =>
      obtain ⟨A9, c9, D9, d9, r9, lo9, hi9, rfl, rfl, R9, H9, e1, e2, e3, e4, e5, b9⟩ := hcut
      obtain ⟨U4, hU4⟩ : ∃ U4, U4 = wc := ⟨_, rfl⟩
      rw [← hU4] at R9 H9 e4 b9 ⊢
      clear hU4
      have QA := Lib.hid (blk_keep b9.out QA.out)
      have EA := Lib.hid (blk_keep b9.out EA.out)
      have R6 := Lib.hid (blk_keep b9.out R6.out)
      have X8 := Lib.hid (blk_keep b9.out X8.out)
      have H6 := Lib.hid (H6.out.below b9.out)
      have OX := Lib.hid (OX.out.below b9.out)
      have BZ := Lib.hid (below_app BZ.out b9.out NZ)
      have NZ : w.heap.size ≤ U4.heap.size := BZ.out.size
      have U4s := b9.out.size
      have gx0 := blk_at R9.out (j := 0) rfl; have gx1 := blk_at R9.out (j := 1) rfl; have gx2 := blk_at R9.out (j := 2) rfl
      have fx0 := blk_at R6.out (j := 0) rfl; have fx1 := blk_at R6.out (j := 1) rfl; have fx2 := blk_at R6.out (j := 2) rfl
      go_wp2_with fail
      refine (eqBooks_true _ _ _ rk _ _ _ _ _ _ _ _ _ rs rd _ H9.out.shelves H9.out.docs H6.out.shelves H6.out.docs (by omega) (by omega) (by omega) (by omega) RS1.out RD1.out).mono ?_; rintro r' w5 ⟨rfl, hw5⟩
      have QA := Lib.hid (blk_keep hw5 QA.out)
      have EA := Lib.hid (blk_keep hw5 EA.out)
      have R6 := Lib.hid (blk_keep hw5 R6.out)
      have X8 := Lib.hid (blk_keep hw5 X8.out)
      have R9 := Lib.hid (blk_keep hw5 R9.out)
      have H6 := Lib.hid (H6.out.below hw5)
      have OX := Lib.hid (OX.out.below hw5)
      have H9 := Lib.hid (H9.out.below hw5)
      have BZ := Lib.hid (below_app BZ.out hw5 NZ)
      have NZ : w.heap.size ≤ w5.heap.size := BZ.out.size
      have w5s := hw5.size
      clear gx0 gx1 gx2 fx0 fx1 fx2
      go_upto_region 13 with fail
      have sY : ∀ v : World, v.heap[r8]? = some (Obj.cells #[.slice A8 sn c8, .int .i64 k, .slice D8 dn d8] 31 (0, 0)) → v.heap[w.heap.size]? = some (Obj.cells #[.slice sA sn sc, .int .i64 k, .slice dA dn dc] 25 (0, 0)) → (v.cell? ⟨r8, 0, none⟩ = some (.slice A8 sn c8) ∧ v.cell? ⟨r8, 1, none⟩ = some (.int .i64 k) ∧ v.cell? ⟨r8, 2, none⟩ = some (.slice D8 dn d8)) ∧ v.cell? ⟨w.heap.size, 0, none⟩ = some (.slice sA sn sc) ∧ v.cell? ⟨w.heap.size, 1, none⟩ = some (.int .i64 k) ∧ v.cell? ⟨w.heap.size, 2, none⟩ = some (.slice dA dn dc) :=
        fun v h1 h2 => ⟨⟨blk_at h1 rfl, blk_at h1 rfl, blk_at h1 rfl⟩, blk_at h2 rfl, blk_at h2 rfl, blk_at h2 rfl⟩
      have SY := Lib.hid sY; clear sY
      refine wp_region_cut (S := fun v => (v.cell? ⟨r8, 0, none⟩ = some (.slice A8 sn c8) ∧ v.cell? ⟨r8, 1, none⟩ = some (.int .i64 k) ∧ v.cell? ⟨r8, 2, none⟩ = some (.slice D8 dn d8)) ∧ v.cell? ⟨w.heap.size, 0, none⟩ = some (.slice sA sn sc) ∧ v.cell? ⟨w.heap.size, 1, none⟩ = some (.int .i64 k) ∧ v.cell? ⟨w.heap.size, 2, none⟩ = some (.slice dA dn dc)) 4 (by kernel_rfl) (by kernel_rfl) (by simp only [List.pop_toArray, List.dropLast_cons_cons, List.dropLast_singleton]; rfl) (SY.out w5.drew X8.out QA.out) (fun hHeld => ?_)
      obtain ⟨v0, hv0⟩ : ∃ v0, v0 = w5.drew := ⟨_, rfl⟩
      rw [← hv0] at hHeld ⊢
      have hv0b : Below w5.heap.size w5 v0 := by rw [hv0]; exact (Below.refl _ _).drew
      clear hv0
      have QA := Lib.hid (blk_keep hv0b QA.out)
      have EA := Lib.hid (blk_keep hv0b EA.out)
      have R6 := Lib.hid (blk_keep hv0b R6.out)
      have X8 := Lib.hid (blk_keep hv0b X8.out)
      have R9 := Lib.hid (blk_keep hv0b R9.out)
      have H6 := Lib.hid (H6.out.below hv0b)
      have OX := Lib.hid (OX.out.below hv0b)
      have H9 := Lib.hid (H9.out.below hv0b)
      have BZ := Lib.hid (below_app BZ.out hv0b NZ)
      have NZ : w.heap.size ≤ v0.heap.size := BZ.out.size
      have v0s := hv0b.size
      refine wpAnyH_take (i := 0) (oi := ?_) (v := ?_) (by simp only [List.getElem?_toArray, List.getElem?_cons_zero]; rfl) (by kernel_rfl) (by kernel_rfl) (by kernel_rfl) ?_ (Or.inl ⟨by rfl, ?_⟩) hHeld ?_
      rotate_left 1
      focus exact CutPost.panic fun _ _ _ h => h
      focus (intro w hSw; (try dsimp only at hSw); go_simp; try with_reducible rfl)
      (try simp only [Act.put, List.setIfInBounds_toArray, List.set_cons_zero, List.set_cons_succ])
      refine wpAnyH_take (i := 1) (oi := ?_) (v := ?_) (by simp only [List.getElem?_toArray, List.getElem?_cons_succ, List.getElem?_cons_zero]; rfl) (by kernel_rfl) (by kernel_rfl) (by kernel_rfl) ?_ (Or.inl ⟨by rfl, ?_⟩) hHeld ?_
      rotate_left 1
      focus exact CutPost.panic fun _ _ _ h => h
      focus (intro w hSw; (try dsimp only at hSw); go_simp; try with_reducible rfl)
      (try simp only [Act.put, List.setIfInBounds_toArray, List.set_cons_zero, List.set_cons_succ])
      refine wpAnyH_ready (rs := [2]) (by kernel_rfl) (by simp) ?_
      refine AllReadyH.cons (o := ?_) (by simp only [List.getElem?_toArray, List.getElem?_cons_succ, List.getElem?_cons_zero]; rfl) (fun K hK => ?_) AllReadyH.nil
      go_simp
      (go_at_call 12; refine (toBooks_any _ _ _ k _ _ _ ss ds _ (hr.below BZ.out) (hd.below BZ.out) q1 q2 Q34.out.1 Q34.out.2).mono ?_; rintro r' w6 ⟨A7, c7, D7, d7, rfl, O7, hw6⟩)
      go_wp2_with fail
      have O7 := Lib.hid O7
      have QA := Lib.hid (blk_keep hw6 QA.out)
      have EA := Lib.hid (blk_keep hw6 EA.out)
      have R6 := Lib.hid (blk_keep hw6 R6.out)
      have X8 := Lib.hid (blk_keep hw6 X8.out)
      have R9 := Lib.hid (blk_keep hw6 R9.out)
      have H6 := Lib.hid (H6.out.below hw6)
      have OX := Lib.hid (OX.out.below hw6)
      have H9 := Lib.hid (H9.out.below hw6)
      have BZ := Lib.hid (below_app BZ.out hw6 NZ)
      have NZ : w.heap.size ≤ w6.heap.size := BZ.out.size
      have w6s := hw6.size
      refine hK.out _ _ (SY.out w6 X8.out QA.out) (fun hHeld => ?_)
      clear hK K
      (try simp only [Act.put, List.setIfInBounds_toArray, List.set_cons_zero, List.set_cons_succ])
      refine wpAnyH_ready (rs := [3]) (by kernel_rfl) (by simp) ?_
      refine AllReadyH.cons (o := ?_) (by simp only [List.getElem?_toArray, List.getElem?_cons_succ, List.getElem?_cons_zero]; rfl) (fun K hK => ?_) AllReadyH.nil
      go_simp
      (go_at_call 14; refine (eqBooks_true _ _ _ k _ _ _ _ _ _ _ _ _ ss ds _ OX.out.shelves OX.out.docs O7.out.shelves O7.out.docs (by omega) (by omega) (by omega) (by omega) HOK.out SD1.out).mono ?_; rintro r' w7 ⟨rfl, hw7⟩)
      go_wp2_with fail
      clear O7
      have QA := Lib.hid (blk_keep hw7 QA.out)
      have EA := Lib.hid (blk_keep hw7 EA.out)
      have R6 := Lib.hid (blk_keep hw7 R6.out)
      have X8 := Lib.hid (blk_keep hw7 X8.out)
      have R9 := Lib.hid (blk_keep hw7 R9.out)
      have H6 := Lib.hid (H6.out.below hw7)
      have OX := Lib.hid (OX.out.below hw7)
      have H9 := Lib.hid (H9.out.below hw7)
      have BZ := Lib.hid (below_app BZ.out hw7 NZ)
      have NZ : w.heap.size ≤ w7.heap.size := BZ.out.size
      have w7s := hw7.size
      refine hK.out _ _ (SY.out w7 X8.out QA.out) (fun hHeld => ?_)
      clear hK K
      (try simp only [Act.put, List.setIfInBounds_toArray, List.set_cons_zero, List.set_cons_succ])
      refine wpAnyH_done (by kernel_rfl) ?_ _
      refine CutPost.step (o := ?_) (by simp only [List.getElem?_toArray, List.getElem?_cons_succ, List.getElem?_cons_zero]; rfl) (fun K hK => ?_)
      go_simp
      refine hK _ _ ?_
      clear hK K
      (try simp only [Act.put, List.setIfInBounds_toArray, List.set_cons_zero, List.set_cons_succ])
      have k1 := KM0.out.1; have k2 := KM0.out.2
      have k3 := KM.out.1; have k4 := KM.out.2
      have fx0 := blk_at X8.out (j := 0) rfl; have fx1 := blk_at X8.out (j := 1) rfl; have fx2 := blk_at X8.out (j := 2) rfl
      go_wp2_with fail
      refine (markBooks_any U2.heap.size w3.heap.size _ _ _ k _ _ _ ss ds 1 _ OX.out (by omega) t1 t2 SS2.out (by omega) (by omega) (KS0.out 1) (KD0.out _)).mono ?_; rintro r' w8 ⟨rfl, _, W8⟩
      clear fx0 fx1 fx2
      have QA := Lib.hid ((W8.block w.heap.size (Array.getElem?_eq_some_iff.1 QA.out).1 (by omega)).trans QA.out)
      have EA := Lib.hid ((W8.block (w.heap.size + 1) (Array.getElem?_eq_some_iff.1 EA.out).1 (by omega)).trans EA.out)
      have R6 := Lib.hid ((W8.block r6 (Array.getElem?_eq_some_iff.1 R6.out).1 (by omega)).trans R6.out)
      have R9 := Lib.hid ((W8.block r9 (Array.getElem?_eq_some_iff.1 R9.out).1 (by omega)).trans R9.out)
      have H6 := Lib.hid (H6.out.within W8 (by omega))
      have H9 := Lib.hid (H9.out.within W8 (by omega))
      have BZ := Lib.hid (below_within BZ.out W8 (by omega) NZ)
      have NZ : w.heap.size ≤ w8.heap.size := BZ.out.size
      have w8s := W8.size
      have n1 : ¬ kDoc (kSh 1 ss sn) ds dn < 0 := by omega
      have gx0 := blk_at R9.out (j := 0) rfl; have gx1 := blk_at R9.out (j := 1) rfl; have gx2 := blk_at R9.out (j := 2) rfl
      have fx0 := blk_at R6.out (j := 0) rfl; have fx1 := blk_at R6.out (j := 1) rfl; have fx2 := blk_at R6.out (j := 2) rfl
      go_wp2_with fail
      refine (eqBooks_true _ _ _ rk _ _ _ _ _ _ _ _ _ rs rd _ H9.out.shelves H9.out.docs H6.out.shelves H6.out.docs (by omega) (by omega) (by omega) (by omega) RS1.out RD1.out).mono ?_; rintro r' w9 ⟨rfl, hw9⟩
      have QA := Lib.hid (blk_keep hw9 QA.out)
      have EA := Lib.hid (blk_keep hw9 EA.out)
      have R6 := Lib.hid (blk_keep hw9 R6.out)
      have R9 := Lib.hid (blk_keep hw9 R9.out)
      have H6 := Lib.hid (H6.out.below hw9)
      have H9 := Lib.hid (H9.out.below hw9)
      have BZ := Lib.hid (below_app BZ.out hw9 NZ)
      have NZ : w.heap.size ≤ w9.heap.size := BZ.out.size
      have w9s := hw9.size
      clear gx0 gx1 gx2 fx0 fx1 fx2
      have gx0 := blk_at R9.out (j := 0) rfl; have gx1 := blk_at R9.out (j := 1) rfl; have gx2 := blk_at R9.out (j := 2) rfl
      go_wp2_with fail
      refine (markBooks_any lo9 hi9 _ _ _ rk _ _ _ rs rd 1 _ H9.out (by omega) g1 g2 RS2.out (by omega) (by omega) (KS.out 1) (KD.out _)).mono ?_; rintro r' w10 ⟨rfl, M9, W10⟩
      have M9 := Lib.hid M9
      clear H9
      clear gx0 gx1 gx2
      have QA := Lib.hid ((W10.block w.heap.size (Array.getElem?_eq_some_iff.1 QA.out).1 (by omega)).trans QA.out)
      have EA := Lib.hid ((W10.block (w.heap.size + 1) (Array.getElem?_eq_some_iff.1 EA.out).1 (by omega)).trans EA.out)
      have R6 := Lib.hid ((W10.block r6 (Array.getElem?_eq_some_iff.1 R6.out).1 (by omega)).trans R6.out)
      have R9 := Lib.hid ((W10.block r9 (Array.getElem?_eq_some_iff.1 R9.out).1 (by omega)).trans R9.out)
      have H6 := Lib.hid (H6.out.within W10 (by omega))
      have BZ := Lib.hid (below_within BZ.out W10 (by omega) NZ)
      have NZ : w.heap.size ≤ w10.heap.size := BZ.out.size
      have w10s := W10.size
      have gx0 := blk_at R9.out (j := 0) rfl; have gx1 := blk_at R9.out (j := 1) rfl; have gx2 := blk_at R9.out (j := 2) rfl
      go_wp2_with fail
      refine (heldBooks_any _ _ _ rk _ _ _ rs rd 1 _ M9.out.shelves M9.out.docs g1 g2 RS2.out (by omega) (by omega) (KS.out 1) (KD.out _)).mono ?_; rintro r' w11 ⟨rfl, hw11⟩
      have n2 : ¬ kDoc (kSh 1 rs rn) rd rm < 0 := by omega
      clear gx0 gx1 gx2
      have QA := Lib.hid (blk_keep hw11 QA.out)
      have EA := Lib.hid (blk_keep hw11 EA.out)
      have R6 := Lib.hid (blk_keep hw11 R6.out)
      have R9 := Lib.hid (blk_keep hw11 R9.out)
      have H6 := Lib.hid (H6.out.below hw11)
      have M9 := Lib.hid (M9.out.below hw11)
      have BZ := Lib.hid (below_app BZ.out hw11 NZ)
      have NZ : w.heap.size ≤ w11.heap.size := BZ.out.size
      have w11s := hw11.size
      go_upto_region 27 with fail
      go_cut [14, 15] (fun s1 s2 wx => ∃ (A : Option Addr) (c : Nat) (D : Option Addr) (d r lo hi : Nat), s1 = .pointer (some ⟨r, 0, none⟩) ∧ s2 = .int .i64 rc ∧ Hid (wx.heap[r]? = some (Obj.cells #[.slice A rn c, .int .i64 rk, .slice D rm d] 31 (0, 0))) ∧ Hid (BooksO wx lo hi (.slice A rn c) rn rs (.slice D rm d) rm rd) ∧ w11.heap.size ≤ lo ∧ w11.heap.size ≤ r ∧ lo ≤ hi ∧ hi ≤ wx.heap.size ∧ (r < lo ∨ hi ≤ r) ∧ Hid (Below w11.heap.size w11 wx))
      case first =>
        refine wp_region_cut (S := fun v => (v.cell? ⟨w.heap.size, 0, none⟩ = some (.slice sA sn sc) ∧ v.cell? ⟨w.heap.size, 1, none⟩ = some (.int .i64 k) ∧ v.cell? ⟨w.heap.size, 2, none⟩ = some (.slice dA dn dc)) ∧ v.cell? ⟨w.heap.size + 1, 0, none⟩ = some (.int .i64 id) ∧ v.cell? ⟨w.heap.size + 1, 1, none⟩ = some (.int .i64 day) ∧ v.cell? ⟨w.heap.size + 1, 2, none⟩ = some (.int .i64 kind) ∧ v.cell? ⟨w.heap.size + 1, 3, none⟩ = some (.string item) ∧ v.cell? ⟨w.heap.size + 1, 4, none⟩ = some (.int .i64 eq) ∧ v.cell? ⟨w.heap.size + 1, 5, none⟩ = some (.int .i64 ea) ∧ v.cell? ⟨w.heap.size + 1, 6, none⟩ = some (.int .i64 er)) 10 (by kernel_rfl) (by kernel_rfl) (by simp only [List.pop_toArray, List.dropLast_cons_cons, List.dropLast_singleton]; rfl) (SO1.out w11.drew QA.out EA.out) (fun hHeld => ?_)
        obtain ⟨v0, hv0⟩ : ∃ v0, v0 = w11.drew := ⟨_, rfl⟩
        rw [← hv0] at hHeld ⊢
        have Bv0 := Lib.hid (show Below w11.heap.size w11 v0 by rw [hv0]; exact (Below.refl _ _).drew)
        have Hv0s := Bv0.out.size
        clear hv0
        refine wpAnyH_take (i := 0) (oi := ?_) (v := ?_) (by simp only [List.getElem?_toArray, List.getElem?_cons_zero]; rfl) (by kernel_rfl) (by kernel_rfl) (by kernel_rfl) ?_ (Or.inl ⟨by rfl, ?_⟩) hHeld ?_
        rotate_left 1
        focus exact CutPost.panic fun _ _ _ h => h
        focus (intro w hSw; (try dsimp only at hSw); go_simp; try with_reducible rfl)
        (try simp only [Act.put, List.setIfInBounds_toArray, List.set_cons_zero, List.set_cons_succ])
        refine wpAnyH_take (i := 2) (oi := ?_) (v := ?_) (by simp only [List.getElem?_toArray, List.getElem?_cons_succ, List.getElem?_cons_zero]; rfl) (by kernel_rfl) (by kernel_rfl) (by kernel_rfl) ?_ (Or.inl ⟨by rfl, ?_⟩) hHeld ?_
        rotate_left 1
        focus exact CutPost.panic fun _ _ _ h => h
        focus (intro w hSw; (try dsimp only at hSw); go_simp; try with_reducible rfl)
        (try simp only [Act.put, List.setIfInBounds_toArray, List.set_cons_zero, List.set_cons_succ])
        refine wpAnyH_ready (rs := [1, 8]) (by kernel_rfl) (by simp) ?_
        refine AllReadyH.cons (o := ?_) (by simp only [List.getElem?_toArray, List.getElem?_cons_succ, List.getElem?_cons_zero]; rfl) (fun K hK => ?_) (AllReadyH.cons (o := ?_) (by simp only [List.getElem?_toArray, List.getElem?_cons_succ, List.getElem?_cons_zero]; rfl) (fun K hK => ?_) AllReadyH.nil)
        ·
          go_simp
          (go_at_call 12; refine (toBooks_any _ _ _ k _ _ _ ss ds _ (hr.below (BZ.out.trans (Bv0.out.mono NZ))) (hd.below (BZ.out.trans (Bv0.out.mono NZ))) q1 q2 Q34.out.1 Q34.out.2).mono ?_; rintro r' v0c ⟨A1, c1, D1, d1, rfl, O1x, hbv0c⟩)
          go_wp2_with fail
          have Bv0c := Lib.hid (below_app Bv0.out hbv0c Bv0.out.size)
          have Hv0cs := hbv0c.size
          have O1 := Lib.hid O1x
          refine hK.out _ _ (SO1.out v0c (blk_keep Bv0c.out QA.out) (blk_keep Bv0c.out EA.out)) (fun hHeld => ?_)
          clear hK K
          (try simp only [Act.put, List.setIfInBounds_toArray, List.set_cons_zero, List.set_cons_succ])
          refine wpAnyH_ready (rs := [3, 8]) (by kernel_rfl) (by simp) ?_
          refine AllReadyH.cons (o := ?_) (by simp only [List.getElem?_toArray, List.getElem?_cons_succ, List.getElem?_cons_zero]; rfl) (fun K hK => ?_) (AllReadyH.cons (o := ?_) (by simp only [List.getElem?_toArray, List.getElem?_cons_succ, List.getElem?_cons_zero]; rfl) (fun K hK => ?_) AllReadyH.nil)
          ·
            go_simp
            (go_at_call 25; refine (toEvent_any ⟨id, day, kind, item, eq, ea, er⟩ _).mono ?_; rintro r' v0cc ⟨rfl, hbv0cc⟩)
            go_wp2_with fail
            have Bv0cc := Lib.hid (below_app Bv0c.out hbv0cc Bv0c.out.size)
            have Hv0ccs := hbv0cc.size
            have O1 := Lib.hid (O1.out.below hbv0cc)
            refine hK.out _ _ (SO1.out v0cc (blk_keep Bv0cc.out QA.out) (blk_keep Bv0cc.out EA.out)) (fun hHeld => ?_)
            clear hK K
            (try simp only [Act.put, List.setIfInBounds_toArray, List.set_cons_zero, List.set_cons_succ])
            refine wpAnyH_ready (rs := [4, 8]) (by kernel_rfl) (by simp) ?_
            refine AllReadyH.cons (o := ?_) (by simp only [List.getElem?_toArray, List.getElem?_cons_succ, List.getElem?_cons_zero]; rfl) (fun K hK => ?_) (AllReadyH.cons (o := ?_) (by simp only [List.getElem?_toArray, List.getElem?_cons_succ, List.getElem?_cons_zero]; rfl) (fun K hK => ?_) AllReadyH.nil)
            ·
              go_simp
              (go_at_call 26; refine (implBookEv' _ _ _ k _ _ _ ss ds ⟨id, day, kind, item, eq, ea, er⟩ _ rn rm rk rc rs rd RX.out RN.out RM.out O1.out.shelves O1.out.docs t1 t2 SH.out DO.out hit).mono ?_; rintro r' v0ccc ⟨A9, c9, D9, d9, rfl, O9x, hbv0ccc⟩)
              go_wp2_with fail
              have Bv0ccc := Lib.hid (below_app Bv0cc.out hbv0ccc Bv0cc.out.size)
              have Hv0cccs := hbv0ccc.size
              have O1 := Lib.hid (O1.out.below hbv0ccc)
              have O9 := Lib.hid O9x
              refine hK.out _ _ (SO1.out v0ccc (blk_keep Bv0ccc.out QA.out) (blk_keep Bv0ccc.out EA.out)) (fun hHeld => ?_)
              clear hK K
              (try simp only [Act.put, List.setIfInBounds_toArray, List.set_cons_zero, List.set_cons_succ])
              refine wpAnyH_take (i := 5) (oi := ?_) (v := ?_) (by simp only [List.getElem?_toArray, List.getElem?_cons_succ, List.getElem?_cons_zero]; rfl) (by kernel_rfl) (by kernel_rfl) (by kernel_rfl) ?_ (Or.inl ⟨by rfl, ?_⟩) hHeld ?_
              rotate_left 1
              focus exact CutPost.panic fun _ _ _ h => h
              focus (intro w hSw; (try dsimp only at hSw); go_simp; try with_reducible rfl)
              (try simp only [Act.put, List.setIfInBounds_toArray, List.set_cons_zero, List.set_cons_succ])
              refine wpAnyH_take (i := 6) (oi := ?_) (v := ?_) (by simp only [List.getElem?_toArray, List.getElem?_cons_succ, List.getElem?_cons_zero]; rfl) (by kernel_rfl) (by kernel_rfl) (by kernel_rfl) ?_ (Or.inl ⟨by rfl, ?_⟩) hHeld ?_
              rotate_left 1
              focus exact CutPost.panic fun _ _ _ h => h
              focus (intro w hSw; (try dsimp only at hSw); go_simp; try with_reducible rfl)
              (try simp only [Act.put, List.setIfInBounds_toArray, List.set_cons_zero, List.set_cons_succ])
              refine wpAnyH_take (i := 7) (oi := ?_) (v := ?_) (by simp only [List.getElem?_toArray, List.getElem?_cons_succ, List.getElem?_cons_zero]; rfl) (by kernel_rfl) (by kernel_rfl) (by kernel_rfl) ?_ (Or.inl ⟨by rfl, ?_⟩) hHeld ?_
              rotate_left 1
              focus exact CutPost.panic fun _ _ _ h => h
              focus (intro w hSw; (try dsimp only at hSw); go_simp; try with_reducible rfl)
              (try simp only [Act.put, List.setIfInBounds_toArray, List.set_cons_zero, List.set_cons_succ])
              refine wpAnyH_ready (rs := [8]) (by kernel_rfl) (by simp) ?_
              refine AllReadyH.cons (o := ?_) (by simp only [List.getElem?_toArray, List.getElem?_cons_succ, List.getElem?_cons_zero]; rfl) (fun K hK => ?_) AllReadyH.nil
              go_simp
              obtain ⟨v0cccz, hv0cccz⟩ : ∃ v0cccz, v0cccz = v0ccc.alloc (Obj.cells #[.slice none 0 0, .int .i64 0, .slice none 0 0] 31) := ⟨_, rfl⟩
              have Bv0cccz := Lib.hid (show Below w11.heap.size w11 v0cccz by rw [hv0cccz]; exact Bv0ccc.out.alloc Bv0ccc.out.size _)
              have bv0cccz := Lib.hid (show Below v0ccc.heap.size v0ccc v0cccz by rw [hv0cccz]; exact below_box _ _)
              have Hv0ccczs : v0ccc.heap.size + 1 ≤ v0cccz.heap.size := by rw [hv0cccz]; exact Nat.le_of_eq (World.size_alloc _ _).symm
              obtain ⟨r, hr0⟩ : ∃ r, r = v0ccc.heap.size := ⟨_, rfl⟩
              have R0 := Lib.hid (show v0cccz.heap[r]? = some (Obj.cells #[.slice none 0 0, .int .i64 0, .slice none 0 0] 31 (0, 0)) by rw [hv0cccz, hr0]; exact blk_new1 _ _)
              have O1 := Lib.hid (O1.out.below bv0cccz.out)
              have O9 := Lib.hid (O9.out.below bv0cccz.out)
              rw [← hv0cccz, ← hr0]
              have RR := Lib.hid hr0
              clear hr0
              refine hK.out _ _ (SO1.out v0cccz (blk_keep Bv0cccz.out QA.out) (blk_keep Bv0cccz.out EA.out)) (fun hHeld => ?_)
              clear hK K
              (try simp only [Act.put, List.setIfInBounds_toArray, List.set_cons_zero, List.set_cons_succ])
              clear hv0cccz
              have r0 := blk_at R0.out (j := 0) rfl; have r1 := blk_at R0.out (j := 1) rfl; have r2 := blk_at R0.out (j := 2) rfl; have rf := blk_free R0.out
              refine wpAnyH_ready (rs := [9]) (by kernel_rfl) (by simp) ?_
              refine AllReadyH.cons (o := ?_) (by simp only [List.getElem?_toArray, List.getElem?_cons_succ, List.getElem?_cons_zero]; rfl) (fun K hK => ?_) AllReadyH.nil
              go_simp
              obtain ⟨V, hV⟩ : ∃ V, V = (((v0cccz.setCell ⟨r, 0, none⟩ (.slice A9 rn c9)).setCell ⟨r, 1, none⟩ (.int .i64 rk)).setCell ⟨r, 2, none⟩ (.slice D9 rm d9)) := ⟨_, rfl⟩
              have BV := Lib.hid (show Below w11.heap.size w11 V by rw [hV]; exact below_out3 Bv0cccz.out (by have := RR.out; omega) _ _ _)
              have R9 := Lib.hid (show V.heap[r]? = some (Obj.cells #[.slice A9 rn c9, .int .i64 rk, .slice D9 rm d9] 31 (0, 0)) by rw [hV]; exact blk_set3 R0.out _ _ _)
              have H9 := Lib.hid (show BooksO V v0cc.heap.size v0ccc.heap.size _ _ _ _ _ _ by rw [hV]; exact BooksO.out3 O9.out R0.out _ _ _)
              have sV : v0cccz.heap.size ≤ V.heap.size := by rw [hV]; simp [World.setCell]
              rw [← hV]
              clear hV r0 r1 r2 rf
              refine hK.out _ _ (SO1.out V (blk_keep BV.out QA.out) (blk_keep BV.out EA.out)) (fun hHeld => ?_)
              clear hK K
              (try simp only [Act.put, List.setIfInBounds_toArray, List.set_cons_zero, List.set_cons_succ])
              refine wpAnyH_done (by kernel_rfl) ?_ _
              refine CutPost.step (o := ?_) (by simp only [List.getElem?_toArray, List.getElem?_cons_succ, List.getElem?_cons_zero]; rfl) (fun K hK => ?_)
              go_simp
              refine hK _ _ ?_
              clear hK K
              (try simp only [Act.put, List.setIfInBounds_toArray, List.set_cons_zero, List.set_cons_succ])
              go_wp2_with fail
              go_meet
              exact ⟨A9, c9, D9, d9, r, v0cc.heap.size, v0ccc.heap.size, rfl, rfl, R9, H9, by omega, by have := RR.out; omega, by omega, by omega, by have := RR.out; omega, BV⟩
            ·
              go_simp
              obtain ⟨v0ccz, hv0ccz⟩ : ∃ v0ccz, v0ccz = v0cc.alloc (Obj.cells #[.slice none 0 0, .int .i64 0, .slice none 0 0] 31) := ⟨_, rfl⟩
              have Bv0ccz := Lib.hid (show Below w11.heap.size w11 v0ccz by rw [hv0ccz]; exact Bv0cc.out.alloc Bv0cc.out.size _)
              have bv0ccz := Lib.hid (show Below v0cc.heap.size v0cc v0ccz by rw [hv0ccz]; exact below_box _ _)
              have Hv0cczs : v0cc.heap.size + 1 ≤ v0ccz.heap.size := by rw [hv0ccz]; exact Nat.le_of_eq (World.size_alloc _ _).symm
              obtain ⟨r, hr0⟩ : ∃ r, r = v0cc.heap.size := ⟨_, rfl⟩
              have R0 := Lib.hid (show v0ccz.heap[r]? = some (Obj.cells #[.slice none 0 0, .int .i64 0, .slice none 0 0] 31 (0, 0)) by rw [hv0ccz, hr0]; exact blk_new1 _ _)
              have O1 := Lib.hid (O1.out.below bv0ccz.out)
              rw [← hv0ccz, ← hr0]
              have RR := Lib.hid hr0
              clear hr0
              refine hK.out _ _ (SO1.out v0ccz (blk_keep Bv0ccz.out QA.out) (blk_keep Bv0ccz.out EA.out)) (fun hHeld => ?_)
              clear hK K
              (try simp only [Act.put, List.setIfInBounds_toArray, List.set_cons_zero, List.set_cons_succ])
              clear hv0ccz
              refine wpAnyH_ready (rs := [4]) (by kernel_rfl) (by simp) ?_
              refine AllReadyH.cons (o := ?_) (by simp only [List.getElem?_toArray, List.getElem?_cons_succ, List.getElem?_cons_zero]; rfl) (fun K hK => ?_) AllReadyH.nil
              go_simp
              (go_at_call 26; refine (implBookEv' _ _ _ k _ _ _ ss ds ⟨id, day, kind, item, eq, ea, er⟩ _ rn rm rk rc rs rd RX.out RN.out RM.out O1.out.shelves O1.out.docs t1 t2 SH.out DO.out hit).mono ?_; rintro r' v0cczc ⟨A9, c9, D9, d9, rfl, O9x, hbv0cczc⟩)
              go_wp2_with fail
              have Bv0cczc := Lib.hid (below_app Bv0ccz.out hbv0cczc Bv0ccz.out.size)
              have Hv0cczcs := hbv0cczc.size
              have O1 := Lib.hid (O1.out.below hbv0cczc)
              have R0 := Lib.hid (blk_keep hbv0cczc R0.out)
              have O9 := Lib.hid O9x
              refine hK.out _ _ (SO1.out v0cczc (blk_keep Bv0cczc.out QA.out) (blk_keep Bv0cczc.out EA.out)) (fun hHeld => ?_)
              clear hK K
              (try simp only [Act.put, List.setIfInBounds_toArray, List.set_cons_zero, List.set_cons_succ])
              refine wpAnyH_take (i := 5) (oi := ?_) (v := ?_) (by simp only [List.getElem?_toArray, List.getElem?_cons_succ, List.getElem?_cons_zero]; rfl) (by kernel_rfl) (by kernel_rfl) (by kernel_rfl) ?_ (Or.inl ⟨by rfl, ?_⟩) hHeld ?_
              rotate_left 1
              focus exact CutPost.panic fun _ _ _ h => h
              focus (intro w hSw; (try dsimp only at hSw); go_simp; try with_reducible rfl)
              (try simp only [Act.put, List.setIfInBounds_toArray, List.set_cons_zero, List.set_cons_succ])
              refine wpAnyH_take (i := 6) (oi := ?_) (v := ?_) (by simp only [List.getElem?_toArray, List.getElem?_cons_succ, List.getElem?_cons_zero]; rfl) (by kernel_rfl) (by kernel_rfl) (by kernel_rfl) ?_ (Or.inl ⟨by rfl, ?_⟩) hHeld ?_
              rotate_left 1
              focus exact CutPost.panic fun _ _ _ h => h
              focus (intro w hSw; (try dsimp only at hSw); go_simp; try with_reducible rfl)
              (try simp only [Act.put, List.setIfInBounds_toArray, List.set_cons_zero, List.set_cons_succ])
              refine wpAnyH_take (i := 7) (oi := ?_) (v := ?_) (by simp only [List.getElem?_toArray, List.getElem?_cons_succ, List.getElem?_cons_zero]; rfl) (by kernel_rfl) (by kernel_rfl) (by kernel_rfl) ?_ (Or.inl ⟨by rfl, ?_⟩) hHeld ?_
              rotate_left 1
              focus exact CutPost.panic fun _ _ _ h => h
              focus (intro w hSw; (try dsimp only at hSw); go_simp; try with_reducible rfl)
              (try simp only [Act.put, List.setIfInBounds_toArray, List.set_cons_zero, List.set_cons_succ])
              have r0 := blk_at R0.out (j := 0) rfl; have r1 := blk_at R0.out (j := 1) rfl; have r2 := blk_at R0.out (j := 2) rfl; have rf := blk_free R0.out
              refine wpAnyH_ready (rs := [9]) (by kernel_rfl) (by simp) ?_
              refine AllReadyH.cons (o := ?_) (by simp only [List.getElem?_toArray, List.getElem?_cons_succ, List.getElem?_cons_zero]; rfl) (fun K hK => ?_) AllReadyH.nil
              go_simp
              obtain ⟨V, hV⟩ : ∃ V, V = (((v0cczc.setCell ⟨r, 0, none⟩ (.slice A9 rn c9)).setCell ⟨r, 1, none⟩ (.int .i64 rk)).setCell ⟨r, 2, none⟩ (.slice D9 rm d9)) := ⟨_, rfl⟩
              have BV := Lib.hid (show Below w11.heap.size w11 V by rw [hV]; exact below_out3 Bv0cczc.out (by have := RR.out; omega) _ _ _)
              have R9 := Lib.hid (show V.heap[r]? = some (Obj.cells #[.slice A9 rn c9, .int .i64 rk, .slice D9 rm d9] 31 (0, 0)) by rw [hV]; exact blk_set3 R0.out _ _ _)
              have H9 := Lib.hid (show BooksO V v0ccz.heap.size v0cczc.heap.size _ _ _ _ _ _ by rw [hV]; exact BooksO.out3 O9.out R0.out _ _ _)
              have sV : v0cczc.heap.size ≤ V.heap.size := by rw [hV]; simp [World.setCell]
              rw [← hV]
              clear hV r0 r1 r2 rf
              refine hK.out _ _ (SO1.out V (blk_keep BV.out QA.out) (blk_keep BV.out EA.out)) (fun hHeld => ?_)
              clear hK K
              (try simp only [Act.put, List.setIfInBounds_toArray, List.set_cons_zero, List.set_cons_succ])
              refine wpAnyH_done (by kernel_rfl) ?_ _
              refine CutPost.step (o := ?_) (by simp only [List.getElem?_toArray, List.getElem?_cons_succ, List.getElem?_cons_zero]; rfl) (fun K hK => ?_)
              go_simp
              refine hK _ _ ?_
              clear hK K
              (try simp only [Act.put, List.setIfInBounds_toArray, List.set_cons_zero, List.set_cons_succ])
              go_wp2_with fail
              go_meet
              exact ⟨A9, c9, D9, d9, r, v0ccz.heap.size, v0cczc.heap.size, rfl, rfl, R9, H9, by omega, by have := RR.out; omega, by omega, by omega, by have := RR.out; omega, BV⟩
          ·
            go_simp
            obtain ⟨v0cz, hv0cz⟩ : ∃ v0cz, v0cz = v0c.alloc (Obj.cells #[.slice none 0 0, .int .i64 0, .slice none 0 0] 31) := ⟨_, rfl⟩
            have Bv0cz := Lib.hid (show Below w11.heap.size w11 v0cz by rw [hv0cz]; exact Bv0c.out.alloc Bv0c.out.size _)
            have bv0cz := Lib.hid (show Below v0c.heap.size v0c v0cz by rw [hv0cz]; exact below_box _ _)
            have Hv0czs : v0c.heap.size + 1 ≤ v0cz.heap.size := by rw [hv0cz]; exact Nat.le_of_eq (World.size_alloc _ _).symm
            obtain ⟨r, hr0⟩ : ∃ r, r = v0c.heap.size := ⟨_, rfl⟩
            have R0 := Lib.hid (show v0cz.heap[r]? = some (Obj.cells #[.slice none 0 0, .int .i64 0, .slice none 0 0] 31 (0, 0)) by rw [hv0cz, hr0]; exact blk_new1 _ _)
            have O1 := Lib.hid (O1.out.below bv0cz.out)
            rw [← hv0cz, ← hr0]
            have RR := Lib.hid hr0
            clear hr0
            refine hK.out _ _ (SO1.out v0cz (blk_keep Bv0cz.out QA.out) (blk_keep Bv0cz.out EA.out)) (fun hHeld => ?_)
            clear hK K
            (try simp only [Act.put, List.setIfInBounds_toArray, List.set_cons_zero, List.set_cons_succ])
            clear hv0cz
            refine wpAnyH_ready (rs := [3]) (by kernel_rfl) (by simp) ?_
            refine AllReadyH.cons (o := ?_) (by simp only [List.getElem?_toArray, List.getElem?_cons_succ, List.getElem?_cons_zero]; rfl) (fun K hK => ?_) AllReadyH.nil
            go_simp
            (go_at_call 25; refine (toEvent_any ⟨id, day, kind, item, eq, ea, er⟩ _).mono ?_; rintro r' v0czc ⟨rfl, hbv0czc⟩)
            go_wp2_with fail
            have Bv0czc := Lib.hid (below_app Bv0cz.out hbv0czc Bv0cz.out.size)
            have Hv0czcs := hbv0czc.size
            have O1 := Lib.hid (O1.out.below hbv0czc)
            have R0 := Lib.hid (blk_keep hbv0czc R0.out)
            refine hK.out _ _ (SO1.out v0czc (blk_keep Bv0czc.out QA.out) (blk_keep Bv0czc.out EA.out)) (fun hHeld => ?_)
            clear hK K
            (try simp only [Act.put, List.setIfInBounds_toArray, List.set_cons_zero, List.set_cons_succ])
            refine wpAnyH_ready (rs := [4]) (by kernel_rfl) (by simp) ?_
            refine AllReadyH.cons (o := ?_) (by simp only [List.getElem?_toArray, List.getElem?_cons_succ, List.getElem?_cons_zero]; rfl) (fun K hK => ?_) AllReadyH.nil
            go_simp
            (go_at_call 26; refine (implBookEv' _ _ _ k _ _ _ ss ds ⟨id, day, kind, item, eq, ea, er⟩ _ rn rm rk rc rs rd RX.out RN.out RM.out O1.out.shelves O1.out.docs t1 t2 SH.out DO.out hit).mono ?_; rintro r' v0czcc ⟨A9, c9, D9, d9, rfl, O9x, hbv0czcc⟩)
            go_wp2_with fail
            have Bv0czcc := Lib.hid (below_app Bv0czc.out hbv0czcc Bv0czc.out.size)
            have Hv0czccs := hbv0czcc.size
            have O1 := Lib.hid (O1.out.below hbv0czcc)
            have R0 := Lib.hid (blk_keep hbv0czcc R0.out)
            have O9 := Lib.hid O9x
            refine hK.out _ _ (SO1.out v0czcc (blk_keep Bv0czcc.out QA.out) (blk_keep Bv0czcc.out EA.out)) (fun hHeld => ?_)
            clear hK K
            (try simp only [Act.put, List.setIfInBounds_toArray, List.set_cons_zero, List.set_cons_succ])
            refine wpAnyH_take (i := 5) (oi := ?_) (v := ?_) (by simp only [List.getElem?_toArray, List.getElem?_cons_succ, List.getElem?_cons_zero]; rfl) (by kernel_rfl) (by kernel_rfl) (by kernel_rfl) ?_ (Or.inl ⟨by rfl, ?_⟩) hHeld ?_
            rotate_left 1
            focus exact CutPost.panic fun _ _ _ h => h
            focus (intro w hSw; (try dsimp only at hSw); go_simp; try with_reducible rfl)
            (try simp only [Act.put, List.setIfInBounds_toArray, List.set_cons_zero, List.set_cons_succ])
            refine wpAnyH_take (i := 6) (oi := ?_) (v := ?_) (by simp only [List.getElem?_toArray, List.getElem?_cons_succ, List.getElem?_cons_zero]; rfl) (by kernel_rfl) (by kernel_rfl) (by kernel_rfl) ?_ (Or.inl ⟨by rfl, ?_⟩) hHeld ?_
            rotate_left 1
            focus exact CutPost.panic fun _ _ _ h => h
            focus (intro w hSw; (try dsimp only at hSw); go_simp; try with_reducible rfl)
            (try simp only [Act.put, List.setIfInBounds_toArray, List.set_cons_zero, List.set_cons_succ])
            refine wpAnyH_take (i := 7) (oi := ?_) (v := ?_) (by simp only [List.getElem?_toArray, List.getElem?_cons_succ, List.getElem?_cons_zero]; rfl) (by kernel_rfl) (by kernel_rfl) (by kernel_rfl) ?_ (Or.inl ⟨by rfl, ?_⟩) hHeld ?_
            rotate_left 1
            focus exact CutPost.panic fun _ _ _ h => h
            focus (intro w hSw; (try dsimp only at hSw); go_simp; try with_reducible rfl)
            (try simp only [Act.put, List.setIfInBounds_toArray, List.set_cons_zero, List.set_cons_succ])
            have r0 := blk_at R0.out (j := 0) rfl; have r1 := blk_at R0.out (j := 1) rfl; have r2 := blk_at R0.out (j := 2) rfl; have rf := blk_free R0.out
            refine wpAnyH_ready (rs := [9]) (by kernel_rfl) (by simp) ?_
            refine AllReadyH.cons (o := ?_) (by simp only [List.getElem?_toArray, List.getElem?_cons_succ, List.getElem?_cons_zero]; rfl) (fun K hK => ?_) AllReadyH.nil
            go_simp
            obtain ⟨V, hV⟩ : ∃ V, V = (((v0czcc.setCell ⟨r, 0, none⟩ (.slice A9 rn c9)).setCell ⟨r, 1, none⟩ (.int .i64 rk)).setCell ⟨r, 2, none⟩ (.slice D9 rm d9)) := ⟨_, rfl⟩
            have BV := Lib.hid (show Below w11.heap.size w11 V by rw [hV]; exact below_out3 Bv0czcc.out (by have := RR.out; omega) _ _ _)
            have R9 := Lib.hid (show V.heap[r]? = some (Obj.cells #[.slice A9 rn c9, .int .i64 rk, .slice D9 rm d9] 31 (0, 0)) by rw [hV]; exact blk_set3 R0.out _ _ _)
            have H9 := Lib.hid (show BooksO V v0czc.heap.size v0czcc.heap.size _ _ _ _ _ _ by rw [hV]; exact BooksO.out3 O9.out R0.out _ _ _)
            have sV : v0czcc.heap.size ≤ V.heap.size := by rw [hV]; simp [World.setCell]
            rw [← hV]
            clear hV r0 r1 r2 rf
            refine hK.out _ _ (SO1.out V (blk_keep BV.out QA.out) (blk_keep BV.out EA.out)) (fun hHeld => ?_)
            clear hK K
            (try simp only [Act.put, List.setIfInBounds_toArray, List.set_cons_zero, List.set_cons_succ])
            refine wpAnyH_done (by kernel_rfl) ?_ _
            refine CutPost.step (o := ?_) (by simp only [List.getElem?_toArray, List.getElem?_cons_succ, List.getElem?_cons_zero]; rfl) (fun K hK => ?_)
            go_simp
            refine hK _ _ ?_
            clear hK K
            (try simp only [Act.put, List.setIfInBounds_toArray, List.set_cons_zero, List.set_cons_succ])
            go_wp2_with fail
            go_meet
            exact ⟨A9, c9, D9, d9, r, v0czc.heap.size, v0czcc.heap.size, rfl, rfl, R9, H9, by omega, by have := RR.out; omega, by omega, by omega, by have := RR.out; omega, BV⟩
        ·
          go_simp
          obtain ⟨v0z, hv0z⟩ : ∃ v0z, v0z = v0.alloc (Obj.cells #[.slice none 0 0, .int .i64 0, .slice none 0 0] 31) := ⟨_, rfl⟩
          have Bv0z := Lib.hid (show Below w11.heap.size w11 v0z by rw [hv0z]; exact Bv0.out.alloc Bv0.out.size _)
          have bv0z := Lib.hid (show Below v0.heap.size v0 v0z by rw [hv0z]; exact below_box _ _)
          have Hv0zs : v0.heap.size + 1 ≤ v0z.heap.size := by rw [hv0z]; exact Nat.le_of_eq (World.size_alloc _ _).symm
          obtain ⟨r, hr0⟩ : ∃ r, r = v0.heap.size := ⟨_, rfl⟩
          have R0 := Lib.hid (show v0z.heap[r]? = some (Obj.cells #[.slice none 0 0, .int .i64 0, .slice none 0 0] 31 (0, 0)) by rw [hv0z, hr0]; exact blk_new1 _ _)
          rw [← hv0z, ← hr0]
          have RR := Lib.hid hr0
          clear hr0
          refine hK.out _ _ (SO1.out v0z (blk_keep Bv0z.out QA.out) (blk_keep Bv0z.out EA.out)) (fun hHeld => ?_)
          clear hK K
          (try simp only [Act.put, List.setIfInBounds_toArray, List.set_cons_zero, List.set_cons_succ])
          clear hv0z
          refine wpAnyH_ready (rs := [1]) (by kernel_rfl) (by simp) ?_
          refine AllReadyH.cons (o := ?_) (by simp only [List.getElem?_toArray, List.getElem?_cons_succ, List.getElem?_cons_zero]; rfl) (fun K hK => ?_) AllReadyH.nil
          go_simp
          (go_at_call 12; refine (toBooks_any _ _ _ k _ _ _ ss ds _ (hr.below (BZ.out.trans (Bv0z.out.mono NZ))) (hd.below (BZ.out.trans (Bv0z.out.mono NZ))) q1 q2 Q34.out.1 Q34.out.2).mono ?_; rintro r' v0zc ⟨A1, c1, D1, d1, rfl, O1x, hbv0zc⟩)
          go_wp2_with fail
          have Bv0zc := Lib.hid (below_app Bv0z.out hbv0zc Bv0z.out.size)
          have Hv0zcs := hbv0zc.size
          have R0 := Lib.hid (blk_keep hbv0zc R0.out)
          have O1 := Lib.hid O1x
          refine hK.out _ _ (SO1.out v0zc (blk_keep Bv0zc.out QA.out) (blk_keep Bv0zc.out EA.out)) (fun hHeld => ?_)
          clear hK K
          (try simp only [Act.put, List.setIfInBounds_toArray, List.set_cons_zero, List.set_cons_succ])
          refine wpAnyH_ready (rs := [3]) (by kernel_rfl) (by simp) ?_
          refine AllReadyH.cons (o := ?_) (by simp only [List.getElem?_toArray, List.getElem?_cons_succ, List.getElem?_cons_zero]; rfl) (fun K hK => ?_) AllReadyH.nil
          go_simp
          (go_at_call 25; refine (toEvent_any ⟨id, day, kind, item, eq, ea, er⟩ _).mono ?_; rintro r' v0zcc ⟨rfl, hbv0zcc⟩)
          go_wp2_with fail
          have Bv0zcc := Lib.hid (below_app Bv0zc.out hbv0zcc Bv0zc.out.size)
          have Hv0zccs := hbv0zcc.size
          have O1 := Lib.hid (O1.out.below hbv0zcc)
          have R0 := Lib.hid (blk_keep hbv0zcc R0.out)
          refine hK.out _ _ (SO1.out v0zcc (blk_keep Bv0zcc.out QA.out) (blk_keep Bv0zcc.out EA.out)) (fun hHeld => ?_)
          clear hK K
          (try simp only [Act.put, List.setIfInBounds_toArray, List.set_cons_zero, List.set_cons_succ])
          refine wpAnyH_ready (rs := [4]) (by kernel_rfl) (by simp) ?_
          refine AllReadyH.cons (o := ?_) (by simp only [List.getElem?_toArray, List.getElem?_cons_succ, List.getElem?_cons_zero]; rfl) (fun K hK => ?_) AllReadyH.nil
          go_simp
          (go_at_call 26; refine (implBookEv' _ _ _ k _ _ _ ss ds ⟨id, day, kind, item, eq, ea, er⟩ _ rn rm rk rc rs rd RX.out RN.out RM.out O1.out.shelves O1.out.docs t1 t2 SH.out DO.out hit).mono ?_; rintro r' v0zccc ⟨A9, c9, D9, d9, rfl, O9x, hbv0zccc⟩)
          go_wp2_with fail
          have Bv0zccc := Lib.hid (below_app Bv0zcc.out hbv0zccc Bv0zcc.out.size)
          have Hv0zcccs := hbv0zccc.size
          have O1 := Lib.hid (O1.out.below hbv0zccc)
          have R0 := Lib.hid (blk_keep hbv0zccc R0.out)
          have O9 := Lib.hid O9x
          refine hK.out _ _ (SO1.out v0zccc (blk_keep Bv0zccc.out QA.out) (blk_keep Bv0zccc.out EA.out)) (fun hHeld => ?_)
          clear hK K
          (try simp only [Act.put, List.setIfInBounds_toArray, List.set_cons_zero, List.set_cons_succ])
          refine wpAnyH_take (i := 5) (oi := ?_) (v := ?_) (by simp only [List.getElem?_toArray, List.getElem?_cons_succ, List.getElem?_cons_zero]; rfl) (by kernel_rfl) (by kernel_rfl) (by kernel_rfl) ?_ (Or.inl ⟨by rfl, ?_⟩) hHeld ?_
          rotate_left 1
          focus exact CutPost.panic fun _ _ _ h => h
          focus (intro w hSw; (try dsimp only at hSw); go_simp; try with_reducible rfl)
          (try simp only [Act.put, List.setIfInBounds_toArray, List.set_cons_zero, List.set_cons_succ])
          refine wpAnyH_take (i := 6) (oi := ?_) (v := ?_) (by simp only [List.getElem?_toArray, List.getElem?_cons_succ, List.getElem?_cons_zero]; rfl) (by kernel_rfl) (by kernel_rfl) (by kernel_rfl) ?_ (Or.inl ⟨by rfl, ?_⟩) hHeld ?_
          rotate_left 1
          focus exact CutPost.panic fun _ _ _ h => h
          focus (intro w hSw; (try dsimp only at hSw); go_simp; try with_reducible rfl)
          (try simp only [Act.put, List.setIfInBounds_toArray, List.set_cons_zero, List.set_cons_succ])
          refine wpAnyH_take (i := 7) (oi := ?_) (v := ?_) (by simp only [List.getElem?_toArray, List.getElem?_cons_succ, List.getElem?_cons_zero]; rfl) (by kernel_rfl) (by kernel_rfl) (by kernel_rfl) ?_ (Or.inl ⟨by rfl, ?_⟩) hHeld ?_
          rotate_left 1
          focus exact CutPost.panic fun _ _ _ h => h
          focus (intro w hSw; (try dsimp only at hSw); go_simp; try with_reducible rfl)
          (try simp only [Act.put, List.setIfInBounds_toArray, List.set_cons_zero, List.set_cons_succ])
          have r0 := blk_at R0.out (j := 0) rfl; have r1 := blk_at R0.out (j := 1) rfl; have r2 := blk_at R0.out (j := 2) rfl; have rf := blk_free R0.out
          refine wpAnyH_ready (rs := [9]) (by kernel_rfl) (by simp) ?_
          refine AllReadyH.cons (o := ?_) (by simp only [List.getElem?_toArray, List.getElem?_cons_succ, List.getElem?_cons_zero]; rfl) (fun K hK => ?_) AllReadyH.nil
          go_simp
          obtain ⟨V, hV⟩ : ∃ V, V = (((v0zccc.setCell ⟨r, 0, none⟩ (.slice A9 rn c9)).setCell ⟨r, 1, none⟩ (.int .i64 rk)).setCell ⟨r, 2, none⟩ (.slice D9 rm d9)) := ⟨_, rfl⟩
          have BV := Lib.hid (show Below w11.heap.size w11 V by rw [hV]; exact below_out3 Bv0zccc.out (by have := RR.out; omega) _ _ _)
          have R9 := Lib.hid (show V.heap[r]? = some (Obj.cells #[.slice A9 rn c9, .int .i64 rk, .slice D9 rm d9] 31 (0, 0)) by rw [hV]; exact blk_set3 R0.out _ _ _)
          have H9 := Lib.hid (show BooksO V v0zcc.heap.size v0zccc.heap.size _ _ _ _ _ _ by rw [hV]; exact BooksO.out3 O9.out R0.out _ _ _)
          have sV : v0zccc.heap.size ≤ V.heap.size := by rw [hV]; simp [World.setCell]
          rw [← hV]
          clear hV r0 r1 r2 rf
          refine hK.out _ _ (SO1.out V (blk_keep BV.out QA.out) (blk_keep BV.out EA.out)) (fun hHeld => ?_)
          clear hK K
          (try simp only [Act.put, List.setIfInBounds_toArray, List.set_cons_zero, List.set_cons_succ])
          refine wpAnyH_done (by kernel_rfl) ?_ _
          refine CutPost.step (o := ?_) (by simp only [List.getElem?_toArray, List.getElem?_cons_succ, List.getElem?_cons_zero]; rfl) (fun K hK => ?_)
          go_simp
          refine hK _ _ ?_
          clear hK K
          (try simp only [Act.put, List.setIfInBounds_toArray, List.set_cons_zero, List.set_cons_succ])
          go_wp2_with fail
          go_meet
          exact ⟨A9, c9, D9, d9, r, v0zcc.heap.size, v0zccc.heap.size, rfl, rfl, R9, H9, by omega, by have := RR.out; omega, by omega, by omega, by have := RR.out; omega, BV⟩
      case rest =>
        obtain ⟨A5, c5, D5, d5, r5, lo5, hi5, rfl, rfl, R5, H5, f1, f2, f3, f4, f5, b5⟩ := hcut
        obtain ⟨U5, hU5⟩ : ∃ U5, U5 = wc := ⟨_, rfl⟩
        rw [← hU5] at R5 H5 f4 b5 ⊢
        clear hU5
        have R6 := Lib.hid (blk_keep b5.out R6.out)
        have R9 := Lib.hid (blk_keep b5.out R9.out)
        have H6 := Lib.hid (H6.out.below b5.out)
        have M9 := Lib.hid (M9.out.below b5.out)
        have BZ := Lib.hid (below_app BZ.out b5.out NZ)
        have NZ : w.heap.size ≤ U5.heap.size := BZ.out.size
        have U5s := b5.out.size
        have gx0 := blk_at R5.out (j := 0) rfl; have gx1 := blk_at R5.out (j := 1) rfl; have gx2 := blk_at R5.out (j := 2) rfl
        have fx0 := blk_at R6.out (j := 0) rfl; have fx1 := blk_at R6.out (j := 1) rfl; have fx2 := blk_at R6.out (j := 2) rfl
        go_wp2_with fail
        refine (eqBooks_true _ _ _ rk _ _ _ _ _ _ _ _ _ rs rd _ H5.out.shelves H5.out.docs H6.out.shelves H6.out.docs (by omega) (by omega) (by omega) (by omega) RS1.out RD1.out).mono ?_; rintro r' w12 ⟨rfl, hw12⟩
        have R9 := Lib.hid (blk_keep hw12 R9.out)
        have M9 := Lib.hid (M9.out.below hw12)
        have BZ := Lib.hid (below_app BZ.out hw12 NZ)
        have NZ : w.heap.size ≤ w12.heap.size := BZ.out.size
        have w12s := hw12.size
        clear gx0 gx1 gx2 fx0 fx1 fx2
        have gx0 := blk_at R9.out (j := 0) rfl; have gx1 := blk_at R9.out (j := 1) rfl; have gx2 := blk_at R9.out (j := 2) rfl
        go_wp2_with fail
        refine (heldBooks_any _ _ _ rk _ _ _ rs rd 1 _ M9.out.shelves M9.out.docs g1 g2 RS2.out (by omega) (by omega) (KS.out 1) (KD.out _)).mono ?_; rintro r' w13 ⟨rfl, hw13⟩
        go_wp2_with fail
        go_ret
        exact ⟨rfl, below_app BZ.out hw13 NZ⟩


set_option maxRecDepth 100000 in
theorem lifted (os : Os) (started : os.Started) (H : Type) (enc : TypeId × Value → H) :
    ReturnsInHanded {} Try.checked os 8 .any (Rows.fnExactBookEventSpec.pre6 enc Try.prog Try.f8 Rows.fnExactBookEventRow.domain false) (Rows.fnExactBookEventSpec.post enc Try.prog Try.f8 false true false false) := by
  refine returnsInHanded_of_change (C := Try.checked) Try.own started (by kernel_rfl) Try.func8
    (ChangeSpec.witness6 (enc := enc) (C := Try.checked) false ⟨#[], #[.agg #[.slice none 0 0, .int .i64 0, .slice none 0 0], .agg #[.int .i64 0, .int .i64 0, .int .i64 0, .string .empty, .int .i64 0, .int .i64 0, .int .i64 0]], []⟩ 8 (by kernel_rfl) (by kernel_rfl) (by kernel_rfl) (by kernel_rfl)) ?_
  intro W base args ds gs before hval0 hW hcnd _
  have hval : ∀ (j : Nat) t v, Try.f8.params[j]? = some t → args[j]? = some v → Value.okWide Try.prog W .any base t v := hval0
  have hW' := hW
  obtain ⟨p, q, hA0, hV, rfl, hfz, hnd⟩ := hW
  have hA : DataW.TrodAll enc Try.prog W 0 (fun _ => true) true Try.f8.params.toList args.toList ds p := hA0
  rw [Try.params8] at hA hval
  obtain ⟨v0, vs0, d0, ds0, p0, q0, hargs, rfl, rfl, h0, r0⟩ := trodAll_cons hA
  obtain ⟨v1, vs1, d1, ds1, p1, q1, rfl, rfl, rfl, h1, r1⟩ := trodAll_cons r0
  obtain ⟨rfl, rfl, rfl⟩ := trodAll_nil r1
  obtain rfl : args = #[v0, v1] := by cases args; simp_all
  obtain ⟨rfl, rfl⟩ := trodVars_none hV
  obtain ⟨sAb, snb, scb, kb, dAb, dnb, dcb, ssb, dsb, rfl, hrb, hdb, hnb, hmb, hkb, hokb, hodb⟩ := open_books (hval 0 25 v0 rfl rfl) h0
  obtain ⟨e, rfl, he⟩ := open_event (hval 1 40 v1 rfl rfl) h1
  refine (walk W sAb snb scb kb dAb dnb dcb ssb dsb hrb hdb hnb hmb hkb hokb hodb e he).mono fun e W' ⟨he, hb⟩ => ?_
  subst he
  exact ⟨_, rfl, law_post Try.laidOut (by kernel_rfl) (by kernel_rfl) Try.underlying4 hW' rfl ⟨rfl, rfl, rfl⟩ hb⟩

theorem proved : Rows.FnExactBookEventSaid :=
  OpenClaim.holds_of_wide 8 Try.f8 rfl rfl rfl rfl rfl rfl rfl ⟨rfl, rfl, rfl, rfl, rfl⟩ rfl rfl rfl rfl rfl (by kernel_rfl) Try.func8 (by kernel_rfl)
    (of_decide_eq_true (by kernel_rfl)) (by unfold Func.isWrapper; first | (rw [if_pos (by decide +kernel)]; kernel_rfl) | (rw [if_neg (by decide +kernel)]; exact ⟨rfl, rfl⟩))
    (fun os started H enc _ => lifted os started H enc)
#print axioms proved
end Go.Proofs.Ytlgodbjbllpipaa.fnExactBookEvent
