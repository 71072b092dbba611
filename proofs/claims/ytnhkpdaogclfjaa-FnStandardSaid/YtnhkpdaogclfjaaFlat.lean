/- Slices of flat structs: where a cell lies; what a mark leaves; sums over the first elements. No condition. -/
import Derived.Test.YtnhkpdaogclfjaaOpen
import Derived.Test.YtnhkpdaogclfjaaMark
import Derived.Test.YtnhkpdaogclfjaaMore
namespace Go.Proofs.Ytnhkpdaogclfjaa
open Go.ChangeShapes Go.WideShapes Go.ChangeAt Go.RowKit

section
variable {α : Type} {f : α → List Value} {sz : Nat} {w : World} {A : Option Addr} {n : Nat} {l : List α}
theorem RS.flatLen (h : RS w sz A n (l.flatMap f)) (hf : ∀ y, (f y).length = sz) (h0 : 0 < sz) : l.length = n := by
  have := h.len
  rw [flat_len f hf] at this
  exact Nat.eq_of_mul_eq_mul_right h0 this
theorem RS.flatAt {k : Nat} (h : RS w sz A n (l.flatMap f)) (hf : ∀ y, (f y).length = sz) (h0 : 0 < sz) (hk : k < n) :
    ∃ g off, A = some ⟨g, off, none⟩ ∧ ∃ y, l[k]? = some y ∧ ∀ j, j < sz → w.cell? ⟨g, off + k * sz + j, none⟩ = (f y)[j]? := by
  obtain ⟨g, off, e, hc⟩ := h.at_ (by omega)
  have hl := h.flatLen hf h0
  obtain ⟨y, hy⟩ : ∃ y, l[k]? = some y := ⟨_, List.getElem?_eq_getElem (by omega)⟩
  refine ⟨g, off, e, y, hy, fun j hj => ?_⟩
  have h1 := flat_get f hf l k y hy j hj
  obtain ⟨u, hu⟩ : ∃ u, (f y)[j]? = some u := ⟨_, List.getElem?_eq_getElem (by rw [hf]; exact hj)⟩
  rw [hu] at h1 ⊢
  rw [Nat.add_assoc]
  exact hc _ _ h1
theorem flat_append (f : α → List Value) (l m : List α) : (l ++ m).flatMap f = l.flatMap f ++ m.flatMap f := List.flatMap_append
theorem flat_one (f : α → List Value) (x : α) : [x].flatMap f = f x := by simp
theorem flat_one_cell {f : α → List Value} (h : ∀ x, ∀ u ∈ f x, u.oneCell' = true) (l : List α) : ∀ u ∈ l.flatMap f, u.oneCell' = true := by
  intro u hu
  obtain ⟨x, _, hx⟩ := List.mem_flatMap.1 hu
  exact h x u hx
theorem take_flat {l : List α} {k : Nat} {x : α} (h : l[k]? = some x) : (l.take (k + 1)).flatMap f = (l.take k).flatMap f ++ f x := by
  rw [List.take_add_one, h, flat_append]; simp
end

/-- What is left of a size, -1 if nothing. -/
def szRes (left tot : Int) : Int := if left - tot < 0 then -1 else left - tot
theorem szRes_no {left tot : Int} (h : left < tot) : szRes left tot = -1 := by unfold szRes; rw [if_pos (by omega)]
theorem szRes_yes {left tot : Int} (h : tot ≤ left) : szRes left tot = left - tot := by unfold szRes; rw [if_neg (by omega)]

/-! ### sums over the first elements -/
def sumF {α : Type} (f : α → Int) (l : List α) (k : Nat) : Int := ((l.take k).map f).sum
theorem sumF_zero {α : Type} (f : α → Int) (l : List α) : sumF f l 0 = 0 := by simp [sumF]
theorem sumF_succ {α : Type} (f : α → Int) {l : List α} {k : Nat} {x : α} (h : l[k]? = some x) : sumF f l (k + 1) = sumF f l k + f x := by
  simp [sumF, List.take_add_one, h]
theorem sumF_nonneg {α : Type} {f : α → Int} {l : List α} (h : ∀ x ∈ l, 0 ≤ f x) (k : Nat) : 0 ≤ sumF f l k := by
  unfold sumF
  have : ∀ m : List α, (∀ x ∈ m, 0 ≤ f x) → 0 ≤ (m.map f).sum := by
    intro m
    induction m with
    | nil => simp
    | cons x m ih =>
      intro hm
      have := ih (fun y hy => hm y (by simp [hy])); have := hm x (by simp)
      simp only [List.map_cons, List.sum_cons]; omega
  exact this _ fun x hx => h x (List.mem_of_mem_take hx)
theorem sumF_mono {α : Type} {f : α → Int} {l : List α} (h : ∀ x ∈ l, 0 ≤ f x) {k n : Nat} (hk : k ≤ n) (hn : n ≤ l.length) : sumF f l k ≤ sumF f l n := by
  induction n with
  | zero => have : k = 0 := by omega
            subst this; exact Int.le_refl _
  | succ n ih =>
    rcases Nat.lt_or_ge k (n + 1) with h1 | h1
    · have hx : l[n]? = some l[n] := List.getElem?_eq_getElem (by omega)
      rw [sumF_succ f hx]
      have := ih (by omega) (by omega); have := h l[n] (List.getElem_mem _)
      omega
    · have : k = n + 1 := by omega
      subst this; exact Int.le_refl _

/-! ### marks of text and of number -/
def marksF (str : Nat → Bool) (m : Nat) (k0 : Int) (N : Nat) : List Value := (List.range N).map fun i => if str (i % m) then .string (mText (k0 + (i : Int)).toNat) else .int .i64 (k0 + (i : Int))
theorem marksF_zero (str : Nat → Bool) (m : Nat) (k0 : Int) : marksF str m k0 0 = [] := rfl
theorem marksF_succ (str : Nat → Bool) (m : Nat) (k0 : Int) (N : Nat) : marksF str m k0 (N + 1) = marksF str m k0 N ++ [if str (N % m) then .string (mText (k0 + (N : Int)).toNat) else .int .i64 (k0 + (N : Int))] := by simp [marksF, List.range_succ]
theorem marksF_len (str : Nat → Bool) (m : Nat) (k0 : Int) (N : Nat) : (marksF str m k0 N).length = N := by simp [marksF]
theorem marksF_at (str : Nat → Bool) (m : Nat) (k0 : Int) {N i : Nat} (h : i < N) : (marksF str m k0 N)[i]? = some (if str (i % m) then .string (mText (k0 + (i : Int)).toNat) else .int .i64 (k0 + (i : Int))) := by simp [marksF, h]
end Go.Proofs.Ytnhkpdaogclfjaa
