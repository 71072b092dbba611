/- A slice of bytes that comes in as an argument, opened; the law's test of its length. No condition. -/
import Derived.Test.YtnhkpdaogclfjaaOpen
import Derived.Test.YtnhkpdaogclfjaaDraw2
namespace Go.Proofs.Ytnhkpdaogclfjaa
open Go.ChangeShapes Go.WideShapes Go.ChangeAt Go.RowKit Go.Deep

theorem byteOpen : FlatAs Try.prog 5 (fun b : Int => [.int .u8 b]) (fun b => 0 ≤ b ∧ b < 256) := by
  intro H enc w base spare held n cs x h
  obtain ⟨b, rfl, _, w0⟩ := DataW.trod_int Try.underlying5 h
  refine ⟨b, rfl, ?_⟩
  have m0 : IntKind.u8.min = 0 := rfl
  have m1 : IntKind.u8.max = 255 := rfl
  simp [Lit.wf, m0, m1] at w0
  omega
theorem bytes_flat (l : List Int) : l.flatMap (fun b : Int => [Value.int .u8 b]) = byteCells l := by
  induction l with
  | nil => rfl
  | cons x l ih => rw [List.flatMap_cons, ih]; rfl
set_option maxRecDepth 100000 in
theorem open_bytes {H : Type} {enc : TypeId × Value → H} {w : World} {base : Nat} {spare : Nat → Bool} {held : Bool} {r : Reach} {b0 : Nat} {v : Value} {d : DataW H} {p : List MemPlace}
    (hv : Value.okWide Try.prog w r b0 47 v) (h : DataW.Trod enc Try.prog w base spare held 47 v d p) :
    ∃ (A : Option Addr) (n c : Nat) (l : List Int), v = .slice A n c ∧ RS w 1 A n (byteCells l) ∧ n ≤ 9223372036854775807 ∧ ∀ y ∈ l, 0 ≤ y ∧ y < 256 := by
  obtain ⟨a0, len, cap, rfl⟩ := okWide_slice Try.underlying47 hv
  obtain ⟨fuel, hf⟩ := h
  obtain ⟨A, n, c, l, hv, hr, hl, hn, hc, hok⟩ := open_flat (f := fun b : Int => [.int .u8 b]) Try.underlying47 (by kernel_rfl : Try.prog.cellsOf 5 = 1) (by omega) (fun _ => rfl) byteOpen (by simpa [Value.cells] using hf)
  refine ⟨A, n, c, l, hv, ?_, by unfold maxLen at hc; omega, hok⟩
  rwa [bytes_flat] at hr

theorem big_any (A : Option Addr) (n c : Nat) (w : World) (hn : n ≤ 9223372036854775807) :
    Calls Try.prog 22 #[.slice A n c] w fun e w' => e = .returned (.bool (decide (1048576 < n))) ∧ w = w' := by
  go_enter Try.func22, Try.ntmps22
  go_wp2
  go_ret
  exact ⟨ret_bool (by simp; omega), rfl⟩
end Go.Proofs.Ytnhkpdaogclfjaa
