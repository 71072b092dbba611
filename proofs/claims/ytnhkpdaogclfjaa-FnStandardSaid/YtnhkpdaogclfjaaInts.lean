/- Lists of ints: their sum, weights, and shares by weights: the plain words, and the walks of sumOf, AreWeights, ShareUpTo and Apportion. -/
import Derived.Test.YtnhkpdaogclfjaaIn
namespace Go.Proofs.Ytnhkpdaogclfjaa
open Go.ChangeShapes Go.WideShapes Go.ChangeAt Go.RowKit

abbrev intCells (l : List Int) : List Value := l.map (Value.int .i64)
theorem intCells_len (l : List Int) : (intCells l).length = l.length := List.length_map _
theorem intCells_one (l : List Int) : ∀ u ∈ intCells l, u.oneCell' = true := by
  intro u hu
  obtain ⟨x, _, rfl⟩ := List.mem_map.1 hu
  rfl
section
variable {w : World} {n c base : Nat} {e : TypeId} {A : Option Addr} {l : List Int}
theorem RS.ints (h : RS w 1 A n (intCells l)) : l.length = n := by have := h.len; rw [intCells_len] at this; omega
theorem RS.intAt {k : Nat} (h : RS w 1 A n (intCells l)) (hk : k < n) : ∃ g off, A = some ⟨g, off, none⟩ ∧ ∃ x, l[k]? = some x ∧ w.cell? ⟨g, off + k, none⟩ = some (.int .i64 x) := by
  obtain ⟨g, off, e, hc⟩ := h.at_ (by omega)
  have hl := h.ints
  obtain ⟨x, hx⟩ : ∃ x, l[k]? = some x := ⟨_, List.getElem?_eq_getElem (by omega)⟩
  exact ⟨g, off, e, x, hx, hc k _ (by simp [hx])⟩
theorem RS.intTake {k : Nat} (h : RS w 1 A n (intCells l)) (hk : k ≤ n) : RS w 1 A k (intCells (l.take k)) := by
  have hl := h.ints
  refine ⟨by simp; omega, fun h0 => ?_⟩
  obtain ⟨g, off, e, hc⟩ := h.at_ (by omega)
  refine ⟨g, off, e, fun j u hu => hc j u ?_⟩
  simp only [intCells, List.getElem?_map, List.getElem?_take] at hu ⊢
  split at hu
  · exact hu
  · simp at hu
theorem own_ints (h : w.ownsRow base e 1 (.slice A n c) n (intCells l)) : l.length = n := (RS.of_own h).ints
end

/-! ### plain words -/
def sumI (l : List Int) (k : Nat) : Int := (l.take k).sum
theorem sumI_zero (l : List Int) : sumI l 0 = 0 := by simp [sumI]
theorem sumI_succ {l : List Int} {k : Nat} {x : Int} (h : l[k]? = some x) : sumI l (k + 1) = sumI l k + x := by
  simp [sumI, List.take_add_one, h]
theorem sumI_all (l : List Int) : sumI l l.length = l.sum := by simp [sumI]
def ups (M : Int) (l : List Int) : Prop := ∀ x ∈ l, 0 ≤ x ∧ x ≤ M
theorem sumI_bd {l : List Int} {M : Int} (h : ups M l) (k : Nat) (hk : k ≤ l.length) : 0 ≤ sumI l k ∧ sumI l k ≤ k * M := by
  induction k with
  | zero => simp [sumI_zero]
  | succ k ih =>
    have hx : l[k]? = some l[k] := List.getElem?_eq_getElem (by omega)
    rw [sumI_succ hx]
    have := ih (by omega); have h1 := h l[k] (List.getElem_mem _)
    rw [Int.natCast_add, Int.add_mul]
    omega
theorem sumI_bd' {l : List Int} {M : Int} {N : Nat} (h : ups M l) (hM : 0 ≤ M) (hl : l.length ≤ N) (k : Nat) (hk : k ≤ l.length) : 0 ≤ sumI l k ∧ sumI l k ≤ N * M := by
  obtain ⟨h1, h2⟩ := sumI_bd h k hk
  refine ⟨h1, Int.le_trans h2 (Int.mul_le_mul_of_nonneg_right (by omega) hM)⟩
theorem ups_take {l : List Int} {M : Int} (h : ups M l) (k : Nat) : ups M (l.take k) := fun x hx => h x (List.mem_of_mem_take hx)
def areW (l : List Int) : Bool := l.all (fun x => inB x 0 1000000) && (decide (l.length ≤ 40) && decide (0 < l.sum))
theorem areW_ups {l : List Int} (h : areW l = true) : ups 1000000 l ∧ l.length ≤ 40 ∧ 0 < l.sum := by
  simp only [areW, Bool.and_eq_true, List.all_eq_true, decide_eq_true_eq] at h
  exact ⟨fun x hx => inB_true.1 (h.1 x hx), h.2.1, h.2.2⟩
theorem areW_bad {l : List Int} {k : Nat} {x : Int} (hx : l[k]? = some x) (h : inB x 0 1000000 = false) : areW l = false := by
  have : l.all (fun x => inB x 0 1000000) = false := by
    rw [List.all_eq_false]; exact ⟨x, List.mem_of_getElem? hx, by simp [h]⟩
  simp [areW, this]
theorem areW_good {l : List Int} (h : ∀ (j : Nat) (x : Int), l[j]? = some x → inB x 0 1000000 = true) : areW l = (decide (l.length ≤ 40) && decide (0 < l.sum)) := by
  have : l.all (fun x => inB x 0 1000000) = true := by
    rw [List.all_eq_true]; intro x hx
    obtain ⟨j, hj, rfl⟩ := List.getElem_of_mem hx
    exact h j _ (List.getElem?_eq_getElem hj)
  simp [areW, this]
/-- What the first k weights get. -/
def shareI (t : Int) (l : List Int) (k : Nat) : Int := (t * sumI l k).tdiv l.sum
def shareOk (t : Int) (l : List Int) : Bool := areW l && inB t (-1000000000) 1000000000
theorem tdiv_bd {a b M : Int} (hb : 0 < b) (h1 : -(M * b) ≤ a) (h2 : a ≤ M * b) : -M ≤ a.tdiv b ∧ a.tdiv b ≤ M := by
  rcases Int.le_total 0 a with h | h
  · have hM : 0 ≤ M := by
      rcases Int.lt_or_le M 0 with hm | hm
      · have := Int.mul_neg_of_neg_of_pos hm hb; omega
      · exact hm
    rw [Int.tdiv_eq_ediv_of_nonneg h]
    have := Int.ediv_nonneg h (Int.le_of_lt hb)
    have := Int.ediv_le_of_le_mul hb h2
    omega
  · have e : a = -(-a) := by omega
    rw [e, Int.neg_tdiv, Int.tdiv_eq_ediv_of_nonneg (by omega)]
    have h3 := Int.ediv_nonneg (a := -a) (b := b) (by omega) (Int.le_of_lt hb)
    have h4 := Int.ediv_le_of_le_mul hb (show -a ≤ M * b by omega)
    omega
theorem sumI_le {l : List Int} {M : Int} (h : ups M l) (k : Nat) (hk : k ≤ l.length) : sumI l k ≤ l.sum := by
  have : ∀ j, k + j ≤ l.length → sumI l k ≤ sumI l (k + j) := by
    intro j
    induction j with
    | zero => intro _; exact Int.le_refl _
    | succ j ih =>
      intro hj
      have hx : l[k + j]? = some l[k + j] := List.getElem?_eq_getElem (by omega)
      have := sumI_succ hx
      have h1 := h l[k + j] (List.getElem_mem _)
      have := ih (by omega)
      rw [show k + (j + 1) = k + j + 1 by omega]
      omega
  have h2 := this (l.length - k) (by omega)
  rw [show k + (l.length - k) = l.length by omega, sumI_all] at h2
  exact h2
theorem mul_abs {t s S : Int} (h1 : -1000000000 ≤ t) (h2 : t ≤ 1000000000) (h3 : 0 ≤ s) (h4 : s ≤ S) : -(1000000000 * S) ≤ t * s ∧ t * s ≤ 1000000000 * S := by
  have a := Int.mul_le_mul_of_nonneg_right h2 h3
  have b := Int.mul_le_mul_of_nonneg_right h1 h3
  have c := Int.mul_le_mul_of_nonneg_left h4 (show (0 : Int) ≤ 1000000000 by omega)
  omega
theorem shareI_bd {t : Int} {l : List Int} (h : areW l = true) (h1 : -1000000000 ≤ t) (h2 : t ≤ 1000000000) (k : Nat) (hk : k ≤ l.length) : -1000000000 ≤ shareI t l k ∧ shareI t l k ≤ 1000000000 := by
  obtain ⟨u, _, p⟩ := areW_ups h
  have b := sumI_bd u k hk
  have m := mul_abs h1 h2 b.1 (sumI_le u k hk)
  exact tdiv_bd p m.1 m.2



def shareAt (t : Int) (l : List Int) (k : Int) : Int := if shareOk t l && inB k 0 (l.length : Int) then shareI t l k.toNat else 0
end Go.Proofs.Ytnhkpdaogclfjaa
