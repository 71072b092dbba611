/- Shelves and books: the plain words; how they read; how they come in. No condition. -/
import Derived.Test.YtlgodbjbllpipaaDocA
import Derived.Test.YtlgodbjbllpipaaSInt
import Derived.Test.YtlgodbjbllpipaaLayB
import Derived.Test.YtlgodbjbllpipaaLayOpen
namespace Go.Proofs.Ytlgodbjbllpipaa
open Go.ChangeShapes Go.WideShapes Go.ChangeAt Go.RowKit Go.Deep

structure Shf where
  item : ByteArray
  ids : List Int
  lays : List Lay
/-- A shelf's cells: its numbers and layers lie elsewhere. -/
structure SV where
  item : ByteArray
  iA : Option Addr
  iN : Nat
  iC : Nat
  lA : Option Addr
  lN : Nat
  lC : Nat
abbrev svI (x : SV) : Value := .slice x.iA x.iN x.iC
abbrev svL (x : SV) : Value := .slice x.lA x.lN x.lC
def svCell (x : SV) : List Value := [.string x.item, svI x, svL x]
theorem svCell_len : ∀ y, (svCell y).length = 3 := fun _ => rfl
theorem svCell_one : ∀ x, ∀ u ∈ svCell x, u.oneCell' = true := by
  intro x u hu
  simp only [svCell, List.mem_cons, List.not_mem_nil, or_false] at hu
  rcases hu with rfl | rfl | rfl <;> rfl
theorem shfInfo : (Try.prog.info? 59).map (fun i => (i.zero, i.size, i.bytes)) = some (some (.agg #[.string ⟨#[]⟩, .slice none 0 0, .slice none 0 0]), 3, 64) := by kernel_rfl

/-! ### shelves that read as plain data -/
def ShFit (w : World) (x : SV) (s : Shf) : Prop := x.item = s.item ∧ RS w 1 x.iA x.iN (intCells s.ids) ∧ RS w 3 x.lA x.lN (layCells s.lays)
def ShelvesR (w : World) (A : Option Addr) (n : Nat) (ss : List Shf) : Prop :=
  ∃ vs : List SV, RS w 3 A n (vs.flatMap svCell) ∧ vs.length = ss.length ∧ ∀ (i : Nat) (x : SV) (s : Shf), vs[i]? = some x → ss[i]? = some s → ShFit w x s
section
variable {w w' : World} {A : Option Addr} {n : Nat} {ss : List Shf}
theorem ShelvesR.below (h : ShelvesR w A n ss) (hb : Below w.heap.size w w') : ShelvesR w' A n ss := by
  obtain ⟨vs, h1, h2, h3⟩ := h
  exact ⟨vs, h1.below hb, h2, fun i x d hx hd => let ⟨a, b, c⟩ := h3 i x d hx hd; ⟨a, b.below hb, c.below hb⟩⟩
theorem ShelvesR.len (h : ShelvesR w A n ss) : ss.length = n := by
  obtain ⟨vs, h1, h2, _⟩ := h
  rw [← h2]; exact h1.flatLen svCell_len (by omega)
theorem ShelvesR.shAt {k : Nat} (h : ShelvesR w A n ss) (hk : k < n) :
    ∃ g off, A = some ⟨g, off, none⟩ ∧ ∃ (s : Shf) (iA : Option Addr) (iN iC : Nat) (lA : Option Addr) (lN lC : Nat), ss[k]? = some s ∧ w.cell? ⟨g, off + k * 3, none⟩ = some (.string s.item) ∧ w.cell? ⟨g, off + k * 3 + 1, none⟩ = some (.slice iA iN iC) ∧
      w.cell? ⟨g, off + k * 3 + 2, none⟩ = some (.slice lA lN lC) ∧ RS w 1 iA iN (intCells s.ids) ∧ RS w 3 lA lN (layCells s.lays) := by
  have hl := h.len
  obtain ⟨vs, h1, h2, h3⟩ := h
  obtain ⟨g, off, e, x, hx, hc⟩ := h1.flatAt svCell_len (by omega) hk
  have hd : ss[k]? = some ss[k] := List.getElem?_eq_getElem (by omega)
  obtain ⟨a, b, c⟩ := h3 k x _ hx hd
  refine ⟨g, off, e, ss[k], x.iA, x.iN, x.iC, x.lA, x.lN, x.lC, hd, ?_, hc 1 (by omega), hc 2 (by omega), b, c⟩
  rw [← a]; exact hc 0 (by omega)
end

/-! ### books that come in -/
def shOk (s : Shf) : Prop := s.item.size ≤ 9223372036854775807 ∧ s.ids.length ≤ 9223372036854775807 ∧ s.lays.length ≤ 9223372036854775807
def SVOk (w : World) (x : SV) : Prop := x.item.size ≤ 9223372036854775807 ∧ (∃ l : List Int, RS w 1 x.iA x.iN (intCells l) ∧ x.iN ≤ 9223372036854775807) ∧ ∃ l : List Lay, RS w 3 x.lA x.lN (layCells l) ∧ x.lN ≤ 9223372036854775807
theorem shelves_of {w : World} : ∀ (vs : List SV), (∀ x ∈ vs, SVOk w x) → ∃ ss : List Shf, vs.length = ss.length ∧ (∀ (i : Nat) (x : SV) (s : Shf), vs[i]? = some x → ss[i]? = some s → ShFit w x s) ∧ ∀ s ∈ ss, shOk s
  | [], _ => ⟨[], rfl, by simp, by simp⟩
  | v :: vs, h => by
    obtain ⟨h1, ⟨l, h2, h3⟩, m, h4, h5⟩ := h v (by simp)
    obtain ⟨ss, k1, k2, k3⟩ := shelves_of vs (fun x hx => h x (by simp [hx]))
    refine ⟨⟨v.item, l, m⟩ :: ss, by simp [k1], fun i x d hx hd => ?_, fun d hd => ?_⟩
    · cases i with
      | zero => simp at hx hd; subst hx hd; exact ⟨rfl, h2, h4⟩
      | succ i => exact k2 i x d (by simpa using hx) (by simpa using hd)
    · rcases List.mem_cons.1 hd with rfl | hd
      · exact ⟨h1, by have := h2.ints; simp only; omega, by have := h4.lay; simp only; omega⟩
      · exact k3 d hd
set_option maxRecDepth 100000 in
theorem trod_shelves {H : Type} {enc : TypeId × Value → H} {w : World} {base : Nat} {spare : Nat → Bool} {held : Bool} {fuel : Nat} {v : Value} {x : DataW H × List MemPlace}
    (hf : DataW.trod enc Try.prog w base spare held fuel 22 [v] = some x) :
    ∃ (A : Option Addr) (n c : Nat) (ss : List Shf), v = .slice A n c ∧ ShelvesR w A n ss ∧ n ≤ 9223372036854775807 ∧ ∀ y ∈ ss, shOk y := by
  have hfl : ∀ (n : Nat) (cs : List Value) (x : DataW H × List MemPlace), DataW.trod enc Try.prog w base spare held n 90 cs = some x → ∃ y : SV, cs = svCell y ∧ SVOk w y := by
    intro n cs x h
    obtain ⟨hlen, m, hf⟩ := open_fields Try.underlying90 (by kernel_rfl) (by kernel_rfl) h
    obtain ⟨v0, y0, h0, t0⟩ := hf 0 _ rfl
    obtain ⟨v1, y1, h1, t1⟩ := hf 1 _ rfl
    obtain ⟨v2, y2, h2, t2⟩ := hf 2 _ rfl
    obtain ⟨a0, e0, _, w0⟩ := DataW.trod_string Try.underlying9 t0
    obtain ⟨A, n, c, l, hv, hr, hl, hn, hc, hok⟩ := open_flat (f := fun b : Int => [.int .i64 b]) Try.underlying56 (by kernel_rfl : Try.prog.cellsOf 3 = 1) (by omega) (fun _ => rfl) intOpen t1
    obtain ⟨A', n', c', l', hv', hr', hl', hn', hc', hok'⟩ := open_flat (f := layCell) Try.underlying88 (by kernel_rfl : Try.prog.cellsOf 143 = 3) (by omega) (fun _ => rfl) layOpen t2
    simp only [List.cons.injEq, and_true] at e0
    subst e0 hv hv'
    rw [ints_flat] at hr
    match cs, hlen with
    | [_, _, _], _ =>
      simp at h0 h1 h2
      exact ⟨⟨a0, A, n, c, A', n', c'⟩, by simp [svCell, h0, h1, h2], by unfold maxLen at w0; simp only; omega, ⟨l, hr, by unfold maxLen at hc; simp only; omega⟩, l', hr', by unfold maxLen at hc'; simp only; omega⟩
  obtain ⟨A, n, c, vs, hv, hr, hl, hn, hc, hok⟩ := open_flatW (f := svCell) (ok := SVOk w) Try.underlying22 (by kernel_rfl : Try.prog.cellsOf 90 = 3) (by omega) (fun _ => rfl) hfl hf
  obtain ⟨ss, k1, k2, k3⟩ := shelves_of vs hok
  exact ⟨A, n, c, ss, hv, ⟨vs, hr, k1, k2⟩, by unfold maxLen at hc; omega, k3⟩
section
variable {H : Type} {enc : TypeId × Value → H} {P : Program} {w : World} {base : Nat} {spare : Nat → Bool} {held : Bool}
theorem open_agg3 {r : Reach} {b0 : Nat} {t : TypeId} {f0 f1 f2 : Field} {v : Value} {d : DataW H} {p : List MemPlace} (hs : P.underlying t = some (.struct #[f0, f1, f2])) (hone : oneCellFields P #[f0, f1, f2] = true) (hC : P.cellsOf t = 3)
    (hv : Value.okWide P w r b0 t v) (h : DataW.Trod enc P w base spare held t v d p) :
    ∃ (v0 v1 v2 : Value) (y0 y1 y2 : DataW H × List MemPlace) (n : Nat), v = .agg #[v0, v1, v2] ∧
      DataW.trod enc P w base spare held n f0.type [v0] = some y0 ∧ DataW.trod enc P w base spare held n f1.type [v1] = some y1 ∧ DataW.trod enc P w base spare held n f2.type [v2] = some y2 := by
  obtain ⟨cs, rfl, hsz⟩ := okWide_struct hs hv
  obtain ⟨l⟩ := cs
  match l, hsz.trans hC with
  | [c0, c1, c2], _ =>
    obtain ⟨fuel, hf⟩ := h
    obtain ⟨xs, n, _, hx, _, hlen, hg⟩ := DataW.trod_struct hs hf
    obtain ⟨o0, k0⟩ := hone_of hone 0 f0 rfl
    obtain ⟨o1, k1⟩ := hone_of hone 1 f1 rfl
    obtain ⟨o2, k2⟩ := hone_of hone 2 f2 rfl
    match xs, hlen with
    | [y0, y1, y2], _ =>
      exact ⟨c0, c1, c2, y0, y1, y2, n, rfl, by simpa [Value.cells, o0, k0] using hg 0 f0 rfl, by simpa [Value.cells, o1, k1] using hg 1 f1 rfl, by simpa [Value.cells, o2, k2] using hg 2 f2 rfl⟩
end
set_option maxRecDepth 100000 in
theorem open_books {H : Type} {enc : TypeId × Value → H} {w : World} {base : Nat} {spare : Nat → Bool} {held : Bool} {r : Reach} {b0 : Nat} {v : Value} {d : DataW H} {p : List MemPlace}
    (hv : Value.okWide Try.prog w r b0 25 v) (h : DataW.Trod enc Try.prog w base spare held 25 v d p) :
    ∃ (sA : Option Addr) (sn sc : Nat) (k : Int) (dA : Option Addr) (dn dc : Nat) (ss : List Shf) (ds : List Doc), v = .agg #[.slice sA sn sc, .int .i64 k, .slice dA dn dc] ∧
      ShelvesR w sA sn ss ∧ DocsR w dA dn ds ∧ sn ≤ 9223372036854775807 ∧ dn ≤ 9223372036854775807 ∧ i64 k ∧ (∀ y ∈ ss, shOk y) ∧ ∀ y ∈ ds, docOk y := by
  obtain ⟨c0, c1, c2, y0, y1, y2, m, rfl, h0, h1, h2⟩ := open_agg3 Try.underlying25 (by kernel_rfl) (by kernel_rfl : Try.prog.cellsOf 25 = 3) hv h
  obtain ⟨sA, sn, sc, ss, rfl, r1, n1, o1⟩ := trod_shelves h0
  obtain ⟨a1, e1, _, w1⟩ := DataW.trod_int Try.underlying3 h1
  obtain ⟨dA, dn, dc, ds, rfl, r2, n2, o2⟩ := trod_docs h2
  simp only [List.cons.injEq, and_true] at e1
  subst e1
  exact ⟨sA, sn, sc, a1, dA, dn, dc, ss, ds, rfl, r1, r2, n1, n2, i64_of w1, o1, o2⟩
end Go.Proofs.Ytlgodbjbllpipaa
