/- The walks of the drawing of texts. No condition. -/
import Derived.Test.YtnhkpdaogclfjaaDraw2
namespace Go.Proofs.Ytnhkpdaogclfjaa
open Go.ChangeShapes Go.WideShapes Go.ChangeAt Go.RowKit

/-- A text that is not long. -/
def ShortText (u : Value) : Prop := ∃ s : ByteArray, u = .string s ∧ s.size ≤ 12
theorem l1Pick_any (g : Nat) (A : Option Addr) (n c : Nat) (xs : List Value) (w : World) (hc : Cur w g) (h : RS w 1 A n xs) (hxs : ∀ u ∈ xs, ShortText u) (h0 : 0 < n) (hn : n ≤ 1000000) (hA : ∀ a, A = some a → a.block ≠ g) :
    Calls Try.prog 80 #[.pointer (some ⟨g, 0, none⟩), .slice A n c] w fun e w' => ∃ s : ByteArray, e = .returned (.string s) ∧ s.size ≤ 12 ∧ w.grownBy w' (some g) ∧ Cur w' g := by
  go_enter Try.func80, Try.ntmps80
  go_wp2_with fail
  refine (l1Below_any g n _ hc (by omega)).mono ?_; rintro e w1 ⟨x, rfl, hx0, -, hx1, hg1, hc1⟩
  have hx2 := hx1 (by omega)
  clear hx1
  have h1 := h.grown hg1 (fun a e _ he => hA a e (by injection he))
  obtain ⟨j, rfl⟩ := Int.eq_ofNat_of_zero_le hx0
  obtain ⟨ga, off, rfl, hcell⟩ := h1.at_ h0
  obtain ⟨y, hy⟩ : ∃ y, xs[j]? = some y := ⟨_, List.getElem?_eq_getElem (by have := h.len; simp at this; omega)⟩
  obtain ⟨s, rfl, hs⟩ := hxs y (List.mem_of_getElem? hy)
  have c1 := hcell j (.string s) hy
  clear hcell hy
  go_wp2_with fail
  go_ret
  exact ⟨s, rfl, hs, hg1, hc1⟩
theorem l1PickIn_any (g : Nat) (A : Option Addr) (n c : Nat) (xs : List Value) (w : World) (hc : Cur w g) (h : RS w 1 A n xs) (hxs : ∀ u ∈ xs, ∃ s : ByteArray, u = .string s) (h0 : 0 < n) (hn : n ≤ 1000000) (hA : ∀ a, A = some a → a.block ≠ g) :
    Calls Try.prog 80 #[.pointer (some ⟨g, 0, none⟩), .slice A n c] w fun e w' => ∃ s : ByteArray, e = .returned (.string s) ∧ Value.string s ∈ xs ∧ w.grownBy w' (some g) ∧ Cur w' g := by
  go_enter Try.func80, Try.ntmps80
  go_wp2_with fail
  refine (l1Below_any g n _ hc (by omega)).mono ?_; rintro e w1 ⟨x, rfl, hx0, -, hx1, hg1, hc1⟩
  have hx2 := hx1 (by omega)
  clear hx1
  have h1 := h.grown hg1 (fun a e _ he => hA a e (by injection he))
  obtain ⟨j, rfl⟩ := Int.eq_ofNat_of_zero_le hx0
  obtain ⟨ga, off, rfl, hcell⟩ := h1.at_ h0
  obtain ⟨y, hy⟩ : ∃ y, xs[j]? = some y := ⟨_, List.getElem?_eq_getElem (by have := h.len; simp at this; omega)⟩
  have hm := List.mem_of_getElem? hy
  obtain ⟨s, rfl⟩ := hxs y hm
  have c1 := hcell j (.string s) hy
  clear hcell hy
  go_wp2_with fail
  go_ret
  exact ⟨s, rfl, hm, hg1, hc1⟩
theorem grown_own {w w' w'' : World} {r row : Option Nat} (h : w.grownBy w' r) (k : w'.grownBy w'' row) (hr : ∀ j, row = some j → w.heap.size ≤ j) : w.grownBy w'' r :=
  ⟨k.os.trans h.os, k.tape.trans h.tape, k.output.trans h.output, Nat.le_trans h.size k.size, fun j hj hne => (k.block j (Nat.lt_of_lt_of_le hj h.size) (fun e => by have := hr j e.symm; omega)).trans (h.block j hj hne)⟩
theorem cur_grown {w w' : World} {g : Nat} {row : Option Nat} (h : Cur w g) (k : w.grownBy w' row) (hr : ∀ j, row = some j → g < j) : Cur w' g := by
  have hlt := h.lt
  obtain ⟨A, n, c, i, x, bs, hh, hrr, h1, h2, h3, h4⟩ := h
  refine ⟨A, n, c, i, x, bs, (k.block g hlt (fun e => by have := hr g e.symm; omega)).trans hh, hrr.grown k (fun a e hn he => ?_), h1, h2, h3, h4⟩
  have := h4 a e hn
  have := hr _ he.symm
  omega
theorem snoc_mem {α : Type} {P : α → Prop} {l : List α} {y : α} (h : ∀ x ∈ l, P x) (hy : P y) : ∀ x ∈ l ++ [y], P x := by
  intro x hx
  rcases List.mem_append.1 hx with h1 | h1
  · exact h x h1
  · rw [List.mem_singleton.1 h1]; exact hy
end Go.Proofs.Ytnhkpdaogclfjaa
