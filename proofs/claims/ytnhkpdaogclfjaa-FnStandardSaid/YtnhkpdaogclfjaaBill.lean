/- Bill lines: each holds a row of nodes of its own: the plain words; how they read, and how they come in. No condition. -/
import Derived.Test.YtnhkpdaogclfjaaSCondNode
import Derived.Test.YtnhkpdaogclfjaaTextEq
import Derived.Test.YtnhkpdaogclfjaaOwns
namespace Go.Proofs.Ytnhkpdaogclfjaa
open Go.ChangeShapes Go.WideShapes Go.ChangeAt Go.RowKit Go.Deep

structure Bl where
  par : ByteArray
  part : ByteArray
  qty : Int
  fr : Int
  un : Int
  cond : List Cn
/-- A line's cells: its nodes lie elsewhere. -/
structure BV where
  par : ByteArray
  part : ByteArray
  qty : Int
  fr : Int
  un : Int
  eA : Option Addr
  en : Nat
  ec : Nat
abbrev bvRow (x : BV) : Value := .slice x.eA x.en x.ec
def blCell (x : BV) : List Value := [.string x.par, .string x.part, .int .i64 x.qty, .int .i64 x.fr, .int .i64 x.un, bvRow x]
theorem blCell_len : ∀ y, (blCell y).length = 6 := fun _ => rfl
theorem blCell_one : ∀ x, ∀ u ∈ blCell x, u.oneCell' = true := by
  intro x u hu
  simp only [blCell, List.mem_cons, List.not_mem_nil, or_false] at hu
  rcases hu with rfl | rfl | rfl | rfl | rfl | rfl <;> rfl
theorem blInfo : (Try.prog.info? 82).map (fun i => (i.zero, i.size, i.bytes)) = some (some (.agg #[.string ⟨#[]⟩, .string ⟨#[]⟩, .int .i64 0, .int .i64 0, .int .i64 0, .slice none 0 0]), 6, 80) := by kernel_rfl
def SameFlat (x : BV) (d : Bl) : Prop := x.par = d.par ∧ x.part = d.part ∧ x.qty = d.qty ∧ x.fr = d.fr ∧ x.un = d.un

/-! ### lines that read as plain data -/
def BillFit (w : World) (x : BV) (d : Bl) : Prop := SameFlat x d ∧ RS w 3 x.eA x.en (d.cond.flatMap cnCell)
def BillsR (w : World) (A : Option Addr) (n : Nat) (ds : List Bl) : Prop :=
  ∃ vs : List BV, RS w 6 A n (vs.flatMap blCell) ∧ vs.length = ds.length ∧ ∀ (i : Nat) (x : BV) (d : Bl), vs[i]? = some x → ds[i]? = some d → BillFit w x d
section
variable {w w' : World} {A : Option Addr} {n : Nat} {ds : List Bl}
theorem BillsR.below (h : BillsR w A n ds) (hb : Below w.heap.size w w') : BillsR w' A n ds := by
  obtain ⟨vs, h1, h2, h3⟩ := h
  exact ⟨vs, h1.below hb, h2, fun i x d hx hd => let ⟨a, c⟩ := h3 i x d hx hd; ⟨a, c.below hb⟩⟩
theorem BillsR.len (h : BillsR w A n ds) : ds.length = n := by
  obtain ⟨vs, h1, h2, _⟩ := h
  rw [← h2]; exact h1.flatLen blCell_len (by omega)
theorem BillsR.blAt {k : Nat} (h : BillsR w A n ds) (hk : k < n) :
    ∃ g off, A = some ⟨g, off, none⟩ ∧ ∃ (d : Bl) (eA : Option Addr) (en ec : Nat), ds[k]? = some d ∧ w.cell? ⟨g, off + k * 6, none⟩ = some (.string d.par) ∧ w.cell? ⟨g, off + k * 6 + 1, none⟩ = some (.string d.part) ∧
      w.cell? ⟨g, off + k * 6 + 2, none⟩ = some (.int .i64 d.qty) ∧ w.cell? ⟨g, off + k * 6 + 3, none⟩ = some (.int .i64 d.fr) ∧ w.cell? ⟨g, off + k * 6 + 4, none⟩ = some (.int .i64 d.un) ∧
      w.cell? ⟨g, off + k * 6 + 5, none⟩ = some (.slice eA en ec) ∧ RS w 3 eA en (d.cond.flatMap cnCell) := by
  have hl := h.len
  obtain ⟨vs, h1, h2, h3⟩ := h
  obtain ⟨g, off, e, x, hx, hc⟩ := h1.flatAt blCell_len (by omega) hk
  have hd : ds[k]? = some ds[k] := List.getElem?_eq_getElem (by omega)
  obtain ⟨⟨a0, a1, a2, a3, a4⟩, c⟩ := h3 k x _ hx hd
  refine ⟨g, off, e, ds[k], x.eA, x.en, x.ec, hd, ?_, ?_, ?_, ?_, ?_, hc 5 (by omega), c⟩
  · rw [← a0]; exact hc 0 (by omega)
  · rw [← a1]; exact hc 1 (by omega)
  · rw [← a2]; exact hc 2 (by omega)
  · rw [← a3]; exact hc 3 (by omega)
  · rw [← a4]; exact hc 4 (by omega)
end

/-! ### lines that a call made: each row in a block of its own, from lo on, below hi -/
def BillsOwn (w : World) (lo hi : Nat) (v : Value) (n : Nat) (ds : List Bl) : Prop :=
  ∃ vs : List BV, w.ownsRow lo 82 6 v n (vs.flatMap blCell) ∧ vs.length = ds.length ∧ (∀ k, v.ownBlock = some k → k < hi) ∧
    (∀ (i : Nat) (x : BV) (d : Bl), vs[i]? = some x → ds[i]? = some d → SameFlat x d ∧ w.ownsRow lo 126 3 (bvRow x) x.en (d.cond.flatMap cnCell) ∧ ∀ k, (bvRow x).ownBlock = some k → k < hi) ∧
    (∀ (i j : Nat) (x y : BV), i < j → vs[i]? = some x → vs[j]? = some y → Apart (bvRow x) (bvRow y))
section
variable {w w' : World} {lo hi : Nat} {A : Option Addr} {v : Value} {n c : Nat} {ds : List Bl}
theorem BillsOwn.read (h : BillsOwn w lo hi (.slice A n c) n ds) : BillsR w A n ds := by
  obtain ⟨vs, h1, h2, _, h4, _⟩ := h
  exact ⟨vs, RS.of_own h1, h2, fun i x d hx hd => let ⟨a, o, _⟩ := h4 i x d hx hd; ⟨a, RS.of_own o⟩⟩
theorem BillsOwn.below (h : BillsOwn w lo hi v n ds) (hb : Below w.heap.size w w') : BillsOwn w' lo hi v n ds := by
  obtain ⟨vs, h1, h2, h3, h4, h5⟩ := h
  exact ⟨vs, own_below h1 hb, h2, h3, fun i x d hx hd => let ⟨a, o, k⟩ := h4 i x d hx hd; ⟨a, own_below o hb, k⟩, h5⟩
theorem BillsOwn.base {lo' : Nat} (h : BillsOwn w lo hi v n ds) (hl : lo' ≤ lo) : BillsOwn w lo' hi v n ds := by
  obtain ⟨vs, h1, h2, h3, h4, h5⟩ := h
  exact ⟨vs, own_base h1 hl, h2, h3, fun i x d hx hd => let ⟨a, o, k⟩ := h4 i x d hx hd; ⟨a, own_base o hl, k⟩, h5⟩
end

/-! ### an argument that comes in -/
section
variable {P : Program}
theorem open_flatW {α : Type} {H : Type} {enc : TypeId × Value → H} {w : World} {base : Nat} {spare : Nat → Bool} {held : Bool} {t e : TypeId} {sz : Nat} {f : α → List Value} {ok : α → Prop}
    (ht : P.underlying t = some (.slice e)) (hC : P.cellsOf e = sz) (hsz : 0 < sz) (hf : ∀ y, (f y).length = sz)
    (hfl : ∀ (n : Nat) (cs : List Value) (x : DataW H × List MemPlace), DataW.trod enc P w base spare held n e cs = some x → ∃ y : α, cs = f y ∧ ok y)
    {fuel : Nat} {v : Value} {x : DataW H × List MemPlace} (h : DataW.trod enc P w base spare held fuel t [v] = some x) :
    ∃ (A : Option Addr) (n c : Nat) (l : List α), v = .slice A n c ∧ RS w sz A n (l.flatMap f) ∧ l.length = n ∧ n ≤ c ∧ c ≤ maxLen ∧ ∀ y ∈ l, ok y := by
  rcases open_slice ht h with ⟨hc, _⟩ | ⟨a, len, cap, m, n, D, Pl, hcs, hb, hl, hm, hmm, _, hi⟩
  · obtain rfl : v = .slice none 0 0 := by simpa using hc
    exact ⟨none, 0, 0, [], rfl, RS.nil _ _ _, rfl, Nat.le_refl _, Nat.zero_le _, by simp⟩
  · obtain rfl : v = .slice (some a) len cap := by simpa using hcs
    have hlm : len ≤ m := by rw [hmm]; split <;> omega
    have hel : ∀ i, i < len → ∃ y : α, ok y ∧ ∀ j, j < sz → w.cell? (a.add (i * sz + j)) = (f y)[j]? := by
      intro i hil
      obtain ⟨cs', hc', ht'⟩ := hi i (by omega)
      obtain ⟨y, rfl, hok⟩ := hfl n cs' _ ht'
      obtain ⟨_, _, hat⟩ := World.cells?_some hc'
      refine ⟨y, hok, fun j hj => ?_⟩
      rw [hC] at hat
      rw [← Go.Deep.add_add]
      exact hat j hj
    obtain ⟨l, hll, hlo⟩ : ∃ l : List α, l.length = len ∧ ∀ i y, l[i]? = some y → ok y ∧ ∀ j, j < sz → w.cell? (a.add (i * sz + j)) = (f y)[j]? := by
      have key : ∀ k, k ≤ len → ∃ l : List α, l.length = k ∧ ∀ i y, l[i]? = some y → ok y ∧ ∀ j, j < sz → w.cell? (a.add (i * sz + j)) = (f y)[j]? := by
        intro k
        induction k with
        | zero => exact fun _ => ⟨[], rfl, by simp⟩
        | succ k ih =>
          intro hk
          obtain ⟨l, h1, h2⟩ := ih (by omega)
          obtain ⟨y, hy1, hy2⟩ := hel k (by omega)
          refine ⟨l ++ [y], by simp [h1], fun i z hz => ?_⟩
          rcases Nat.lt_or_ge i k with hik | hik
          · rw [List.getElem?_append_left (by omega)] at hz; exact h2 i z hz
          · rw [List.getElem?_append_right (by omega)] at hz
            have : i - l.length = 0 := by
              rcases Nat.eq_zero_or_pos (i - l.length) with h0 | h0
              · exact h0
              · rw [List.getElem?_eq_none (by simp; omega)] at hz; cases hz
            have hik' : i = k := by omega
            subst hik'
            rw [this] at hz
            simp at hz; subst hz
            exact ⟨hy1, hy2⟩
      exact key len (Nat.le_refl _)
    have hok : ∀ y ∈ l, ok y := fun y hy => by
      obtain ⟨i, hil, rfl⟩ := List.getElem_of_mem hy
      exact (hlo i _ (List.getElem?_eq_getElem hil)).1
    refine ⟨some a, len, cap, l, rfl, ⟨by rw [flat_len f hf, hll], fun hn => ?_⟩, hll, hl, hm, hok⟩
    obtain ⟨y0, hy0⟩ : ∃ y, l[0]? = some y := ⟨_, List.getElem?_eq_getElem (by omega)⟩
    have h00 := (hlo 0 y0 hy0).2 0 hsz
    obtain ⟨u0, hu0⟩ : ∃ u, (f y0)[0]? = some u := ⟨_, List.getElem?_eq_getElem (by rw [hf]; exact hsz)⟩
    rw [hu0, Nat.zero_mul, Nat.zero_add] at h00
    have ha := spot_none_add h00
    refine ⟨a.block, a.off, by rw [← ha], fun j u hu => ?_⟩
    have hjlt : j < len * sz := by
      have := (List.getElem?_eq_some_iff.1 hu).1
      rwa [flat_len f hf, hll] at this
    have hdiv : j / sz < len := by rw [Nat.div_lt_iff_lt_mul hsz]; exact hjlt
    have hmod : j % sz < sz := Nat.mod_lt _ hsz
    have hj : j / sz * sz + j % sz = j := by rw [Nat.mul_comm]; exact Nat.div_add_mod j sz
    obtain ⟨y, hy⟩ : ∃ y, l[j / sz]? = some y := ⟨_, List.getElem?_eq_getElem (by omega)⟩
    have h1 := (hlo _ y hy).2 _ hmod
    have h2 := flat_get f hf l _ y hy _ hmod
    rw [hj] at h1 h2
    rw [← add_mk, ← ha, h1, ← h2, hu]
end
def billOk (d : Bl) : Prop := d.par.size ≤ 9223372036854775807 ∧ d.part.size ≤ 9223372036854775807 ∧ i64 d.qty ∧ i64 d.fr ∧ i64 d.un ∧ d.cond.length ≤ 9223372036854775807 ∧ ∀ x ∈ d.cond, cnOk x
def BVOk (w : World) (x : BV) : Prop := x.par.size ≤ 9223372036854775807 ∧ x.part.size ≤ 9223372036854775807 ∧ i64 x.qty ∧ i64 x.fr ∧ i64 x.un ∧ ∃ l : List Cn, RS w 3 x.eA x.en (l.flatMap cnCell) ∧ x.en ≤ 9223372036854775807 ∧ ∀ y ∈ l, cnOk y
theorem bills_of {w : World} : ∀ (vs : List BV), (∀ x ∈ vs, BVOk w x) → ∃ ds : List Bl, vs.length = ds.length ∧ (∀ (i : Nat) (x : BV) (d : Bl), vs[i]? = some x → ds[i]? = some d → BillFit w x d) ∧ ∀ d ∈ ds, billOk d
  | [], _ => ⟨[], rfl, by simp, by simp⟩
  | v :: vs, h => by
    obtain ⟨g1, g2, g3, g4, g5, l, h3, h4, h5⟩ := h v (by simp)
    obtain ⟨ds, k1, k2, k3⟩ := bills_of vs (fun x hx => h x (by simp [hx]))
    refine ⟨⟨v.par, v.part, v.qty, v.fr, v.un, l⟩ :: ds, by simp [k1], fun i x d hx hd => ?_, fun d hd => ?_⟩
    · cases i with
      | zero => simp at hx hd; subst hx hd; exact ⟨⟨rfl, rfl, rfl, rfl, rfl⟩, h3⟩
      | succ i => exact k2 i x d (by simpa using hx) (by simpa using hd)
    · rcases List.mem_cons.1 hd with rfl | hd
      · exact ⟨g1, g2, g3, g4, g5, by have := h3.flatLen cnCell_len (by omega); simp only; omega, h5⟩
      · exact k3 d hd
set_option maxRecDepth 100000 in
theorem trod_bills {H : Type} {enc : TypeId × Value → H} {w : World} {base : Nat} {spare : Nat → Bool} {held : Bool} {fuel : Nat} {v : Value} {x : DataW H × List MemPlace}
    (hf : DataW.trod enc Try.prog w base spare held fuel 34 [v] = some x) :
    ∃ (A : Option Addr) (n c : Nat) (ds : List Bl), v = .slice A n c ∧ BillsR w A n ds ∧ n ≤ 9223372036854775807 ∧ ∀ y ∈ ds, billOk y := by
  have hfl : ∀ (n : Nat) (cs : List Value) (x : DataW H × List MemPlace), DataW.trod enc Try.prog w base spare held n 72 cs = some x → ∃ y : BV, cs = blCell y ∧ BVOk w y := by
    intro n cs x h
    obtain ⟨hlen, m, hf⟩ := open_fields Try.underlying72 (by kernel_rfl) (by kernel_rfl) h
    obtain ⟨v0, y0, h0, t0⟩ := hf 0 _ rfl
    obtain ⟨v1, y1, h1, t1⟩ := hf 1 _ rfl
    obtain ⟨v2, y2, h2, t2⟩ := hf 2 _ rfl
    obtain ⟨v3, y3, h3, t3⟩ := hf 3 _ rfl
    obtain ⟨v4, y4, h4, t4⟩ := hf 4 _ rfl
    obtain ⟨v5, y5, h5, t5⟩ := hf 5 _ rfl
    obtain ⟨a0, e0, _, w0⟩ := DataW.trod_string Try.underlying9 t0
    obtain ⟨a1, e1, _, w1⟩ := DataW.trod_string Try.underlying9 t1
    obtain ⟨a2, e2, _, w2⟩ := DataW.trod_int Try.underlying3 t2
    obtain ⟨a3, e3, _, w3⟩ := DataW.trod_int Try.underlying3 t3
    obtain ⟨a4, e4, _, w4⟩ := DataW.trod_int Try.underlying3 t4
    obtain ⟨A, n, c, l, hv, hr, hl, hn, hc, hok⟩ := open_flat (f := cnCell) Try.underlying70 (by kernel_rfl : Try.prog.cellsOf 125 = 3) (by omega) (fun _ => rfl) cnOpen t5
    simp only [List.cons.injEq, and_true] at e0 e1 e2 e3 e4
    subst e0 e1 e2 e3 e4 hv
    match cs, hlen with
    | [_, _, _, _, _, _], _ =>
      simp at h0 h1 h2 h3 h4 h5
      exact ⟨⟨a0, a1, a2, a3, a4, A, n, c⟩, by simp [blCell, h0, h1, h2, h3, h4, h5], by unfold maxLen at w0; simp only; omega, by unfold maxLen at w1; simp only; omega, i64_of w2, i64_of w3, i64_of w4, l, hr, by unfold maxLen at hc; simp only; omega, hok⟩
  obtain ⟨A, n, c, vs, hv, hr, hl, hn, hc, hok⟩ := open_flatW (f := blCell) (ok := BVOk w) Try.underlying34 (by kernel_rfl : Try.prog.cellsOf 72 = 6) (by omega) (fun _ => rfl) hfl hf
  obtain ⟨ds, k1, k2, k3⟩ := bills_of vs hok
  exact ⟨A, n, c, ds, hv, ⟨vs, hr, k1, k2⟩, by unfold maxLen at hc; omega, k3⟩
set_option maxRecDepth 100000 in
theorem open_bills {H : Type} {enc : TypeId × Value → H} {w : World} {base : Nat} {spare : Nat → Bool} {held : Bool} {r : Reach} {b0 : Nat} {v : Value} {d : DataW H} {p : List MemPlace}
    (hv : Value.okWide Try.prog w r b0 34 v) (h : DataW.Trod enc Try.prog w base spare held 34 v d p) :
    ∃ (A : Option Addr) (n c : Nat) (ds : List Bl), v = .slice A n c ∧ BillsR w A n ds ∧ n ≤ 9223372036854775807 ∧ ∀ y ∈ ds, billOk y := by
  obtain ⟨a0, len, cap, rfl⟩ := okWide_slice Try.underlying34 hv
  obtain ⟨fuel, hf⟩ := h
  exact trod_bills (by simpa [Value.cells] using hf)
end Go.Proofs.Ytnhkpdaogclfjaa
