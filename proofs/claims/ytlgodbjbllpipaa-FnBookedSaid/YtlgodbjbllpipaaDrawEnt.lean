/- The walks of the drawing of entries. No condition. -/
import Derived.Test.YtlgodbjbllpipaaDraw2
import Derived.Test.YtlgodbjbllpipaaSEntry
import Derived.Test.YtlgodbjbllpipaaDocO
namespace Go.Proofs.Ytlgodbjbllpipaa
open Go.ChangeShapes Go.WideShapes Go.ChangeAt Go.RowKit

/-- A text that is not long. -/
def ShortText (u : Value) : Prop := ∃ s : ByteArray, u = .string s ∧ s.size ≤ 12
theorem l1Pick_any (g : Nat) (A : Option Addr) (n c : Nat) (xs : List Value) (w : World) (hc : Cur w g) (h : RS w 1 A n xs) (hxs : ∀ u ∈ xs, ShortText u) (h0 : 0 < n) (hn : n ≤ 1000000) (hA : ∀ a, A = some a → a.block ≠ g) :
    Calls Try.prog 99 #[.pointer (some ⟨g, 0, none⟩), .slice A n c] w fun e w' => ∃ s : ByteArray, e = .returned (.string s) ∧ s.size ≤ 12 ∧ w.grownBy w' (some g) ∧ Cur w' g := by
  go_enter Try.func99, Try.ntmps99
  go_wp2_with fail
  refine (l1Below_any g n _ hc (by omega)).mono ?_; rintro e w1 ⟨x, rfl, hx0, -, hx1, hg1, hc1⟩
  have hx2 := hx1 (by omega)
  clear hx1
  have h1 := h.grown hg1 (fun a e _ he => hA a e (by injection he))
  obtain ⟨j, rfl⟩ := Int.eq_ofNat_of_zero_le hx0
  obtain ⟨ga, off, rfl, hcell⟩ := h1.at_ h0
  obtain ⟨y, hy⟩ : ∃ y, xs[j]? = some y := ⟨_, List.getElem?_eq_getElem (by have := h.len; simp at this; omega)⟩
  obtain ⟨s, rfl, hs⟩ := hxs y (List.mem_of_getElem? hy)
  have c1 := hcell j (.string s) hy
  clear hcell hy
  go_wp2_with fail
  go_ret
  exact ⟨s, rfl, hs, hg1, hc1⟩
theorem l4Day_any (g : Nat) (w : World) (hc : Cur w g) :
    Calls Try.prog 101 #[.pointer (some ⟨g, 0, none⟩)] w fun e w' => ∃ x : Int, e = .returned (.int .i64 x) ∧ i64 x ∧ w.grownBy w' (some g) ∧ Cur w' g := by
  have hlt := hc.lt
  go_enter Try.func101, Try.ntmps101
  go_wp2_with fail
  refine (l1Once_any g _ _ hc (by omega)).mono ?_; rintro e w1 ⟨b, rfl, hg1, hc1⟩
  have hlt1 := hc1.lt
  cases b
  · go_wp2_with fail
    refine (l1Below_any g _ _ hc1 (by omega)).mono ?_; rintro e w2 ⟨x, rfl, hx0, hx1, -, hg2, hc2⟩
    go_wp2_with fail
    go_ret
    exact ⟨x, rfl, ⟨by omega, by omega⟩, hg1.trans hg2, hc2⟩
  · go_wp2_with fail
    refine (l1PickInt_any g _ _ _ [-1, 999, 1000, 998, -9223372036854775808, 9223372036854775807] _ (hc1.below (below_box _ _)) (RS_new (by simp)) (by simp [i64]) (by omega) (by omega) (fun a e => by injection e with e; subst e; show w1.heap.size ≠ g; omega)).mono ?_; rintro e w2 ⟨x, rfl, hx, hg2, hc2⟩
    go_wp2_with fail
    go_ret
    exact ⟨x, rfl, hx, (hg1.trans (World.grownBy_alloc w1 _ _)).trans hg2, hc2⟩
theorem grown_own {w w' w'' : World} {r row : Option Nat} (h : w.grownBy w' r) (k : w'.grownBy w'' row) (hr : ∀ j, row = some j → w.heap.size ≤ j) : w.grownBy w'' r :=
  ⟨k.os.trans h.os, k.tape.trans h.tape, k.output.trans h.output, Nat.le_trans h.size k.size, fun j hj hne => (k.block j (Nat.lt_of_lt_of_le hj h.size) (fun e => by have := hr j e.symm; omega)).trans (h.block j hj hne)⟩
theorem cur_grown {w w' : World} {g : Nat} {row : Option Nat} (h : Cur w g) (k : w.grownBy w' row) (hr : ∀ j, row = some j → g < j) : Cur w' g := by
  have hlt := h.lt
  obtain ⟨A, n, c, i, x, bs, hh, hrr, h1, h2, h3, h4⟩ := h
  refine ⟨A, n, c, i, x, bs, (k.block g hlt (fun e => by have := hr g e.symm; omega)).trans hh, hrr.grown k (fun a e hn he => ?_), h1, h2, h3, h4⟩
  have := h4 a e hn
  have := hr _ he.symm
  omega
/-- Entries drawn by cursor g: some, and not many. -/
def enShort (x : En) : Prop := x.acc.size ≤ 12 ∧ i64 x.amt
def DrawnEnts (g : Nat) (w : World) (e : Ending) (w' : World) : Prop :=
  ∃ (A : Option Addr) (n c : Nat) (l : List En), e = .returned (.slice A n c) ∧ w'.ownsRow w.heap.size 66 2 (.slice A n c) n (l.flatMap enCell) ∧ n ≤ 4 ∧ (∀ x ∈ l, enShort x) ∧ w.grownBy w' (some g) ∧ Cur w' g
theorem snoc_mem {α : Type} {P : α → Prop} {l : List α} {y : α} (h : ∀ x ∈ l, P x) (hy : P y) : ∀ x ∈ l ++ [y], P x := by
  intro x hx
  rcases List.mem_append.1 hx with h1 | h1
  · exact h x h1
  · rw [List.mem_singleton.1 h1]; exact hy
theorem set_mem {α : Type} {P : α → Prop} {l : List α} {y : α} {j : Nat} (h : ∀ x ∈ l, P x) (hy : P y) : ∀ x ∈ l.set j y, P x := by
  intro x hx
  rcases List.mem_or_eq_of_mem_set hx with h1 | h1
  · exact h x h1
  · rw [h1]; exact hy
end Go.Proofs.Ytlgodbjbllpipaa
