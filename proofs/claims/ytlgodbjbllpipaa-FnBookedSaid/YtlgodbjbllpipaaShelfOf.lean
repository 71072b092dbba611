/- The shelf of an item: the plain words, and the walks of shelfOf, l36Shelf. No condition. -/
import Derived.Test.YtlgodbjbllpipaaAreBk
import Derived.Test.YtlgodbjbllpipaaDocC
namespace Go.Proofs.Ytlgodbjbllpipaa
open Go.ChangeShapes Go.WideShapes Go.ChangeAt Go.RowKit

def shelfAt (l : List Shf) (s : ByteArray) : Int := match l.findIdx? (fun x => decide (x.item = s)) with | some k => k | none => -1
theorem shelfAt_hit {l : List Shf} {s : ByteArray} {k : Nat} {x : Shf} (hx : l[k]? = some x) (h : x.item = s) (hb : ∀ (j : Nat) (y : Shf), j < k → l[j]? = some y → ¬ y.item = s) : shelfAt l s = k := by
  have hk := (List.getElem?_eq_some_iff.1 hx).1
  have : l.findIdx? (fun x => decide (x.item = s)) = some k := by
    rw [List.findIdx?_eq_some_iff_getElem]
    refine ⟨hk, ?_, fun j hj => ?_⟩
    · have := (List.getElem?_eq_some_iff.1 hx).2
      simp [this, h]
    · have := hb j l[j] hj (List.getElem?_eq_getElem (by omega))
      simp [this]
  simp [shelfAt, this]
theorem shelfAt_none {l : List Shf} {s : ByteArray} (hb : ∀ (j : Nat) (y : Shf), l[j]? = some y → ¬ y.item = s) : shelfAt l s = -1 := by
  have : l.findIdx? (fun x => decide (x.item = s)) = none := by
    rw [List.findIdx?_eq_none_iff]
    intro y hy
    obtain ⟨j, hj, rfl⟩ := List.getElem_of_mem hy
    simp [hb j l[j] (List.getElem?_eq_getElem hj)]
  simp [shelfAt, this]
theorem shelfAt_cases (l : List Shf) (s : ByteArray) : (shelfAt l s = -1 ∧ ∀ x ∈ l, ¬ x.item = s) ∨ ∃ (k : Nat) (x : Shf), shelfAt l s = k ∧ l[k]? = some x ∧ x.item = s ∧ ∀ (j : Nat) (y : Shf), j < k → l[j]? = some y → ¬ y.item = s := by
  unfold shelfAt
  cases h : l.findIdx? (fun x => decide (x.item = s)) with
  | none =>
    rw [List.findIdx?_eq_none_iff] at h
    exact .inl ⟨rfl, fun x hx => by simpa using h x hx⟩
  | some k =>
    rw [List.findIdx?_eq_some_iff_getElem] at h
    obtain ⟨hk, h1, h2⟩ := h
    refine .inr ⟨k, l[k], rfl, List.getElem?_eq_getElem hk, by simpa using h1, fun j y hj hy => ?_⟩
    have := h2 j hj
    obtain ⟨hj', rfl⟩ := List.getElem?_eq_some_iff.1 hy
    simpa using this
theorem shelfAt_bd (l : List Shf) (s : ByteArray) : -1 ≤ shelfAt l s ∧ shelfAt l s < l.length := by
  rcases shelfAt_cases l s with ⟨h, _⟩ | ⟨k, x, h, hx, _⟩
  · omega
  · have := (List.getElem?_eq_some_iff.1 hx).1; omega

set_option maxRecDepth 100000 in
set_option maxHeartbeats 2000000 in
theorem implShelfOf (sA : Option Addr) (sn sc : Nat) (k : Int) (dA : Option Addr) (dn dc : Nat) (ss : List Shf) (s : ByteArray) (w : World) (hr : ShelvesR w sA sn ss) (hn : sn ≤ 1048600) :
    Calls Try.prog 53 #[.agg #[.slice sA sn sc, .int .i64 k, .slice dA dn dc], .string s] w fun e w' => e = .returned (.int .i64 (shelfAt ss s)) ∧ Below w.heap.size w w' := by
  have hl := Lib.hid hr.len
  have b0 := Lib.hid (below_box w (Obj.cells #[.slice sA sn sc, .int .i64 k, .slice dA dn dc] 31))
  have X := Lib.hid (blk_new1 w (Obj.cells #[.slice sA sn sc, .int .i64 k, .slice dA dn dc] 31))
  have hr := hr.below b0.out
  go_enter Try.func53, Try.ntmps53
  go_wp2_with fail
  generalize hwo : w.alloc (Obj.cells #[.slice sA sn sc, .int .i64 k, .slice dA dn dc] 31) = wo at *
  clear hwo
  go_loopw [10] (fun i wr => ∃ j : Nat, j ≤ sn ∧ i = .int .i64 j ∧ Below wo.heap.size wo wr ∧ Hid (∀ (i : Nat) (y : Shf), i < j → ss[i]? = some y → ¬ y.item = s)) (fun i _ => sn - (intOf i).toNat)
  case atStart => exact ⟨0, Nat.zero_le _, rfl, Below.refl _ _, fun _ _ h => absurd h (Nat.not_lt_zero _)⟩
  case round =>
    obtain ⟨j, hj, rfl, hb, hno⟩ := hrel
    have hz := hb.size
    have x0 := blk_at (blk_keep hb X.out) (j := 0) rfl
    by_cases hlt : j < sn
    · obtain ⟨g, off, rfl, ⟨item, ids, lays⟩, iA, iN, iC, lA, lN, lC, hx, c0, c1, c2, _, _⟩ := (hr.below hb).shAt hlt
      simp only at c0
      have i1 : (0 : Int) ≤ j := by omega
      have i2 : (j : Int) < sn := by omega
      have step : ¬ item = s → ∀ (i : Nat) (y : Shf), i < j + 1 → ss[i]? = some y → ¬ y.item = s := fun h i y hi hy => by
        rcases Nat.lt_succ_iff_lt_or_eq.1 hi with h' | rfl
        · exact hno.out i y h' hy
        · rw [hx] at hy; injection hy with hy; rw [← hy]; exact h
      have ST := Lib.hid step; clear step
      have HX := Lib.hid hx; clear hx
      by_cases hcode : item = s
      · subst hcode
        have HH := Lib.hid (shelfAt_hit HX.out rfl hno.out)
        go_wp2_with fail
        go_ret
        exact ⟨ret_int (by rw [HH.out]), below_app b0.out (by first | exact hb | exact hb.alloc hz _) b0.out.size⟩
      · have HH := Lib.hid (ST.out hcode)
        have hne := text_ne hcode
        have hne2 : (item.toList == s.toList) = false := by simpa using hne
        clear hcode
        go_wp2_with fail
        go_roundw
        case rel => exact ⟨j + 1, by omega, by go_num, by first | exact hb | exact hb.alloc hz _, HH.out⟩
        case measure => simp [intOf]; omega
    · obtain rfl : sn = j := by omega
      have HH := Lib.hid (shelfAt_none (s := s) (fun i y hy => hno.out i y (by rw [← hl.out]; exact (List.getElem?_eq_some_iff.1 hy).1) hy))
      clear hno
      go_wp2_with fail
      go_ret
      exact ⟨ret_int (by rw [HH.out]), below_app b0.out hb b0.out.size⟩
set_option maxRecDepth 100000 in
set_option maxHeartbeats 2000000 in
theorem specShelfOf (sA : Option Addr) (sn sc : Nat) (k : Int) (dA : Option Addr) (dn dc : Nat) (ss : List Shf) (s : ByteArray) (w : World) (hr : ShelvesR w sA sn ss) (hn : sn ≤ 1048600) :
    Calls Try.prog 51 #[.agg #[.slice sA sn sc, .int .i64 k, .slice dA dn dc], .string s] w fun e w' => e = .returned (.int .i64 (shelfAt ss s)) ∧ Below w.heap.size w w' := by
  have hl := Lib.hid hr.len
  have b0 := Lib.hid (below_box w (Obj.cells #[.slice sA sn sc, .int .i64 k, .slice dA dn dc] 31))
  have X := Lib.hid (blk_new1 w (Obj.cells #[.slice sA sn sc, .int .i64 k, .slice dA dn dc] 31))
  have hr := hr.below b0.out
  go_enter Try.func51, Try.ntmps51
  go_wp2_with fail
  generalize hwo : w.alloc (Obj.cells #[.slice sA sn sc, .int .i64 k, .slice dA dn dc] 31) = wo at *
  clear hwo
  go_loopw [5] (fun i wr => ∃ j : Nat, j ≤ sn ∧ i = .int .i64 j ∧ Below wo.heap.size wo wr ∧ Hid (∀ (i : Nat) (y : Shf), i < j → ss[i]? = some y → ¬ y.item = s)) (fun i _ => sn - (intOf i).toNat)
  case atStart => exact ⟨0, Nat.zero_le _, rfl, Below.refl _ _, fun _ _ h => absurd h (Nat.not_lt_zero _)⟩
  case round =>
    obtain ⟨j, hj, rfl, hb, hno⟩ := hrel
    have hz := hb.size
    have x0 := blk_at (blk_keep hb X.out) (j := 0) rfl
    by_cases hlt : j < sn
    · obtain ⟨g, off, rfl, ⟨item, ids, lays⟩, iA, iN, iC, lA, lN, lC, hx, c0, c1, c2, _, _⟩ := (hr.below hb).shAt hlt
      simp only at c0
      have i1 : (0 : Int) ≤ j := by omega
      have i2 : (j : Int) < sn := by omega
      have step : ¬ item = s → ∀ (i : Nat) (y : Shf), i < j + 1 → ss[i]? = some y → ¬ y.item = s := fun h i y hi hy => by
        rcases Nat.lt_succ_iff_lt_or_eq.1 hi with h' | rfl
        · exact hno.out i y h' hy
        · rw [hx] at hy; injection hy with hy; rw [← hy]; exact h
      have ST := Lib.hid step; clear step
      have HX := Lib.hid hx; clear hx
      by_cases hcode : item = s
      · subst hcode
        have HH := Lib.hid (shelfAt_hit HX.out rfl hno.out)
        go_wp2_with fail
        go_ret
        exact ⟨ret_int (by rw [HH.out]), below_app b0.out (by first | exact hb | exact hb.alloc hz _) b0.out.size⟩
      · have HH := Lib.hid (ST.out hcode)
        have hne := text_ne hcode
        have hne2 : (item.toList == s.toList) = false := by simpa using hne
        clear hcode
        go_wp2_with fail
        go_roundw
        case rel => exact ⟨j + 1, by omega, by go_num, by first | exact hb | exact hb.alloc hz _, HH.out⟩
        case measure => simp [intOf]; omega
    · obtain rfl : sn = j := by omega
      have HH := Lib.hid (shelfAt_none (s := s) (fun i y hy => hno.out i y (by rw [← hl.out]; exact (List.getElem?_eq_some_iff.1 hy).1) hy))
      clear hno
      go_wp2_with fail
      go_ret
      exact ⟨ret_int (by rw [HH.out]), below_app b0.out hb b0.out.size⟩
end Go.Proofs.Ytlgodbjbllpipaa
