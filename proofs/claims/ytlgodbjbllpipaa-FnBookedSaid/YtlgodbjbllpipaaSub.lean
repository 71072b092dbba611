/- Parts of slices: where they lie and what they read as. No condition. -/
import Derived.Test.YtlgodbjbllpipaaFlat
namespace Go.Proofs.Ytlgodbjbllpipaa
open Go.ChangeShapes Go.WideShapes Go.ChangeAt Go.RowKit

section
variable {α : Type} {f : α → List Value} {sz : Nat} {w : World} {A : Option Addr} {n : Nat} {l : List α}
theorem flat_drop (hf : ∀ y, (f y).length = sz) : ∀ (l : List α) (k : Nat), (l.drop k).flatMap f = (l.flatMap f).drop (k * sz)
  | _, 0 => by simp
  | [], _ + 1 => by simp
  | x :: l, k + 1 => by
    rw [List.drop_succ_cons, flat_drop hf l k, List.flatMap_cons, List.drop_append, hf]
    have : (k + 1) * sz - sz = k * sz := by rw [Nat.succ_mul]; omega
    have e : List.drop ((k + 1) * sz) (f x) = [] := List.drop_eq_nil_of_le (by rw [hf, Nat.succ_mul]; omega)
    rw [this, e, List.nil_append]
theorem flat_take (hf : ∀ y, (f y).length = sz) : ∀ (l : List α) (k : Nat), (l.take k).flatMap f = (l.flatMap f).take (k * sz)
  | _, 0 => by simp
  | [], _ + 1 => by simp
  | x :: l, k + 1 => by
    rw [List.take_succ_cons, List.flatMap_cons, flat_take hf l k, List.flatMap_cons, List.take_append, hf]
    have : (k + 1) * sz - sz = k * sz := by rw [Nat.succ_mul]; omega
    have e : List.take ((k + 1) * sz) (f x) = f x := List.take_of_length_le (by rw [hf, Nat.succ_mul]; omega)
    rw [this, e]
theorem RS.flatTake {k : Nat} (h : RS w sz A n (l.flatMap f)) (hf : ∀ y, (f y).length = sz) (h0 : 0 < sz) (hk : k ≤ n) : RS w sz A k ((l.take k).flatMap f) := by
  have hl := h.flatLen hf h0
  refine ⟨by rw [flat_len f hf, List.length_take]; congr 1; omega, fun hp => ?_⟩
  obtain ⟨g, off, e, hc⟩ := h.at_ (by omega)
  refine ⟨g, off, e, fun j u hu => hc j u ?_⟩
  rw [flat_take hf, List.getElem?_take] at hu
  split at hu
  · exact hu
  · cases hu
theorem RS.flatDrop {k : Nat} {A' : Option Addr} (h : RS w sz A n (l.flatMap f)) (hf : ∀ y, (f y).length = sz) (h0 : 0 < sz) (hk : k ≤ n) (hA : k < n → ∀ g off, A = some ⟨g, off, none⟩ → A' = some ⟨g, off + k * sz, none⟩) : RS w sz A' (n - k) ((l.drop k).flatMap f) := by
  have hl := h.flatLen hf h0
  refine ⟨by rw [flat_len f hf, List.length_drop, hl], fun hp => ?_⟩
  obtain ⟨g, off, e, hc⟩ := h.at_ (by omega)
  refine ⟨g, off + k * sz, hA (by omega) g off e, fun j u hu => ?_⟩
  rw [flat_drop hf, List.getElem?_drop] at hu
  rw [Nat.add_assoc]
  exact hc _ _ hu
end
end Go.Proofs.Ytlgodbjbllpipaa
