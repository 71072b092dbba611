/- A late cost shared among layers: the shares are right, and nothing is lost. No condition. -/
import Derived.Test.YtknfhiepndffpaaShare
namespace Go.Proofs.Ytknfhiepndffpaa
open Go.RowKit

theorem ediv_add_lo (A B : Int) {S : Int} (hS : 0 < S) : B / S + A / S ≤ (A + B) / S := by
  rw [Int.le_ediv_iff_mul_le hS, Int.add_mul]
  have h1 := Int.ediv_mul_le A (show S ≠ 0 by omega)
  have h2 := Int.ediv_mul_le B (show S ≠ 0 by omega)
  omega
theorem ediv_add_hi (A B : Int) {S : Int} (hS : 0 < S) : (A + B) / S ≤ A / S + -(-B / S) := by
  have h2 := Int.ediv_mul_le (-B) (show S ≠ 0 by omega)
  have e : A / S + -(-B / S) = (A + -(-B / S) * S) / S := by rw [Int.add_mul_ediv_right _ _ (by omega)]
  rw [e]
  apply Int.ediv_le_ediv hS
  rw [Int.neg_mul]
  omega
theorem tdiv_step {A B S : Int} (hS : 0 < S) (h : (0 ≤ A ∧ 0 ≤ B) ∨ (A ≤ 0 ∧ B ≤ 0)) : B / S ≤ (A + B).tdiv S - A.tdiv S ∧ (A + B).tdiv S - A.tdiv S ≤ -(-B / S) := by
  rcases h with ⟨ha, hb⟩ | ⟨ha, hb⟩
  · rw [Int.tdiv_eq_ediv_of_nonneg (by omega), Int.tdiv_eq_ediv_of_nonneg ha]
    have := ediv_add_lo A B hS; have := ediv_add_hi A B hS
    omega
  · have e1 : A + B = -(-A + -B) := by omega
    have e2 : A.tdiv S = -(-A / S) := by rw [show A = -(-A) by omega, Int.neg_tdiv, Int.tdiv_eq_ediv_of_nonneg (by omega)]; simp
    rw [e1, Int.neg_tdiv, Int.tdiv_eq_ediv_of_nonneg (by omega), e2]
    have := ediv_add_lo (-A) (-B) hS; have := ediv_add_hi (-A) (-B) hS
    rw [Int.neg_neg] at this
    omega
theorem share_step {a : Int} {l : List Int} (h : areW l = true) {k : Nat} {x : Int} (hx : l[k]? = some x) : a * x / l.sum ≤ shareI a l (k + 1) - shareI a l k ∧ shareI a l (k + 1) - shareI a l k ≤ -(-(a * x) / l.sum) := by
  obtain ⟨u, _, p⟩ := areW_ups h
  have hk := (List.getElem?_eq_some_iff.1 hx).1
  have b := sumI_bd u k (by omega)
  have hx0 := u x (List.mem_of_getElem? hx)
  unfold shareI
  rw [sumI_succ hx, Int.mul_add]
  apply tdiv_step p
  rcases Int.le_total 0 a with h0 | h0
  · exact .inl ⟨Int.mul_nonneg h0 b.1, Int.mul_nonneg h0 hx0.1⟩
  · exact .inr ⟨Int.mul_nonpos_of_nonpos_of_nonneg h0 b.1, Int.mul_nonpos_of_nonpos_of_nonneg h0 hx0.1⟩
theorem share_zero (a : Int) (l : List Int) : shareI a l 0 = 0 := by simp [shareI, sumI_zero]
theorem share_all {a : Int} {l : List Int} (h : areW l = true) : shareI a l l.length = a := by
  obtain ⟨_, _, p⟩ := areW_ups h
  rw [shareI, sumI_all, Int.mul_tdiv_cancel _ (by omega)]
theorem appTo_at {a : Int} {l : List Int} {n k : Nat} (hk : k < n) : (appTo a l n)[k]? = some (shareI a l (k + 1) - shareI a l k) := by
  simp [appTo, hk]
theorem app_sum (a : Int) (l : List Int) (k : Nat) : (appTo a l k).sum = shareI a l k := by
  induction k with
  | zero => simp [appTo_zero, share_zero]
  | succ k ih => rw [appTo_succ, List.sum_append, ih]; simp; omega

/-! ### what is in the layers behind sharing -/
theorem shr_at {l : List Lay} {ss : List Int} {k : Nat} {o : List Lay} {g : Int} (h : shrTo l ss k = some (o, g)) (hk : k ≤ ss.length) (hkl : k ≤ l.length) :
    ∀ (j : Nat) (x : Lay) (s : Int), l[j]? = some x → ss[j]? = some s → o[j]? = some (if j < k then bump x s else x) := by
  induction k generalizing o g with
  | zero =>
    simp [shrTo] at h
    intro j x s hx hs
    rw [← h.1]; simpa using hx
  | succ k ih =>
    have hs : ss[k]? = some ss[k] := List.getElem?_eq_getElem (by omega)
    cases hp : shrTo l ss k with
    | none => rw [shrTo_none hp (k + 1) (by omega)] at h; cases h
    | some p =>
      obtain ⟨o', g'⟩ := p
      have IH := ih hp (by omega) (by omega)
      cases ok : lateOk o' (k : Int) ss[k]
      · rw [shrTo_no hp hs ok] at h; cases h
      · rw [shrTo_yes hp hs ok] at h
        simp only [Option.some.injEq, Prod.mk.injEq] at h
        obtain ⟨rfl, _⟩ := h
        intro j x s hx hsj
        have oj := IH j x s hx hsj
        have lk : k < o'.length := by rw [shrTo_len hp]; omega
        have ok' : o'[k]? = some o'[k] := List.getElem?_eq_getElem lk
        rw [lateOut, if_pos ok, Int.toNat_natCast, lateL_at ok', List.getElem?_set]
        by_cases e : k = j
        · subst e
          rw [if_pos rfl, if_pos lk, if_pos (by omega)]
          rw [hs] at hsj
          injection hsj with hsj
          rw [if_neg (by omega)] at oj
          rw [ok'] at oj
          injection oj with oj
          rw [oj, hsj]
        · rw [if_neg e, oj]
          by_cases hj : j < k
          · rw [if_pos hj, if_pos (by omega)]
          · rw [if_neg hj, if_neg (by omega)]
theorem shr_worth {l : List Lay} {ss : List Int} {k : Nat} {o : List Lay} {g : Int} (h : shrTo l ss k = some (o, g)) (hk : k ≤ ss.length) : worthOf o + g = worthOf l + (ss.take k).sum := by
  induction k generalizing o g with
  | zero => simp [shrTo] at h; obtain ⟨rfl, rfl⟩ := h; simp
  | succ k ih =>
    have hs : ss[k]? = some ss[k] := List.getElem?_eq_getElem (by omega)
    cases hp : shrTo l ss k with
    | none => rw [shrTo_none hp (k + 1) (by omega)] at h; cases h
    | some p =>
      obtain ⟨o', g'⟩ := p
      have IH := ih hp (by omega)
      cases ok : lateOk o' (k : Int) ss[k]
      · rw [shrTo_no hp hs ok] at h; cases h
      · rw [shrTo_yes hp hs ok] at h
        simp only [Option.some.injEq, Prod.mk.injEq] at h
        obtain ⟨rfl, rfl⟩ := h
        have L := (law_late ok).2.1
        have e : (ss.take (k + 1)).sum = (ss.take k).sum + ss[k] := by
          rw [List.take_add_one, hs, List.sum_append]; simp
        rw [e]
        omega
/-- What a shared cost leaves. -/
theorem law_shared {l : List Lay} {a : Int} (h : shIs l a = true) :
    areLayers l = true ∧ 0 < l.length ∧ areW (quant l) = true ∧ -1000000000 ≤ a ∧ a ≤ 1000000000 ∧ (shOut l a).length = l.length ∧ worthOf (shOut l a) + shGone l a = worthOf l + a ∧
    ∀ (j : Nat) (x : Lay), l[j]? = some x → ∃ y, (shOut l a)[j]? = some y ∧ y.v = x.v + (shareI a (quant l) (j + 1) - shareI a (quant l) j) := by
  cases hs : shareL l a with
  | none => rw [(shareL_no hs).2.2] at h; cases h
  | some p =>
    obtain ⟨o, g⟩ := p
    obtain ⟨e1, e2, _⟩ := shareL_yes hs
    rw [e1, e2]
    unfold shareL at hs
    split at hs
    · next hc =>
      simp only [Bool.and_eq_true, decide_eq_true_eq] at hc
      obtain ⟨c1, c2, c3⟩ := hc
      obtain ⟨w1, w2, w3⟩ := shareOk_areW c3
      have ea : appOut a (quant l) = appTo a (quant l) l.length := by rw [appOut, if_pos c3, quant_len]
      rw [ea] at hs
      have el : (appTo a (quant l) l.length).length = l.length := appTo_len _ _ _
      have W := shr_worth hs (by omega)
      rw [List.take_of_length_le (by omega), app_sum, ← quant_len l, share_all w1] at W
      refine ⟨c1, c2, w1, w2, w3, shrTo_len hs, W, fun j x hx => ?_⟩
      have hj := (List.getElem?_eq_some_iff.1 hx).1
      have := shr_at hs (by omega) (Nat.le_refl _) j x _ hx (appTo_at hj)
      rw [if_pos hj] at this
      exact ⟨_, this, rfl⟩
    · cases hs
theorem shGone_bd {l : List Lay} {a : Int} (h : shIs l a = true) : -100000000000 ≤ shGone l a ∧ shGone l a ≤ 100000000000 := by
  obtain ⟨_, _, _, h1, h2, _, h3, _⟩ := law_shared h
  have := worthOf_bd l; have := worthOf_bd (shOut l a)
  omega
end Go.Proofs.Ytknfhiepndffpaa
