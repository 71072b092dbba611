/- A slice of layers that comes in as an argument, opened. No condition. -/
import Derived.Test.YtlgodbjbllpipaaOpen
import Derived.Test.YtlgodbjbllpipaaLay
namespace Go.Proofs.Ytlgodbjbllpipaa
open Go.ChangeShapes Go.WideShapes Go.ChangeAt Go.RowKit Go.Deep

def layCell (x : Lay) : List Value := [.int .i64 x.q, .int .i64 x.v, .int .i64 x.u]
def layI64 (x : Lay) : Prop := i64 x.q ∧ i64 x.v ∧ i64 x.u
theorem layOpen : FlatAs Try.prog 143 layCell layI64 := by
  intro H enc w base spare held n cs x h
  obtain ⟨hlen, m, hf⟩ := open_fields Try.underlying143 (by kernel_rfl) (by kernel_rfl) h
  obtain ⟨v0, y0, h0, t0⟩ := hf 0 _ rfl
  obtain ⟨v1, y1, h1, t1⟩ := hf 1 _ rfl
  obtain ⟨v2, y2, h2, t2⟩ := hf 2 _ rfl
  obtain ⟨a0, e0, _, w0⟩ := DataW.trod_int Try.underlying3 t0
  obtain ⟨a1, e1, _, w1⟩ := DataW.trod_int Try.underlying3 t1
  obtain ⟨a2, e2, _, w2⟩ := DataW.trod_int Try.underlying3 t2
  simp only [List.cons.injEq, and_true] at e0 e1 e2
  subst e0 e1 e2
  match cs, hlen with
  | [_, _, _], _ =>
    simp at h0 h1 h2
    exact ⟨⟨a0, a1, a2⟩, by simp [layCell, h0, h1, h2], i64_of w0, i64_of w1, i64_of w2⟩
set_option maxRecDepth 100000 in
theorem open_lays {H : Type} {enc : TypeId × Value → H} {w : World} {base : Nat} {spare : Nat → Bool} {held : Bool} {r : Reach} {b0 : Nat} {v : Value} {d : DataW H} {p : List MemPlace}
    (hv : Value.okWide Try.prog w r b0 88 v) (h : DataW.Trod enc Try.prog w base spare held 88 v d p) :
    ∃ (A : Option Addr) (n c : Nat) (l : List Lay), v = .slice A n c ∧ RS w 3 A n (layCells l) ∧ n ≤ 9223372036854775807 ∧ ∀ y ∈ l, layI64 y := by
  obtain ⟨a0, len, cap, rfl⟩ := okWide_slice Try.underlying88 hv
  obtain ⟨fuel, hf⟩ := h
  obtain ⟨A, n, c, l, hv, hr, hl, hn, hc, hok⟩ := open_flat (f := layCell) Try.underlying88 (by kernel_rfl : Try.prog.cellsOf 143 = 3) (by omega) (fun _ => rfl) layOpen (by simpa [Value.cells] using hf)
  exact ⟨A, n, c, l, hv, hr, by unfold maxLen at hc; omega, hok⟩
end Go.Proofs.Ytlgodbjbllpipaa
