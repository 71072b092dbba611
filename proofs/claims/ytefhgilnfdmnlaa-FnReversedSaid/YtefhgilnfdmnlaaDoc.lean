/- Documents: each holds a row of entries of its own: the plain words; how documents read, and how a call owns them. No condition. -/
import Derived.Test.YtefhgilnfdmnlaaSEntry
import Derived.Test.YtefhgilnfdmnlaaTextEq
import Derived.Test.YtefhgilnfdmnlaaOwns
namespace Go.Proofs.Ytefhgilnfdmnlaa
open Go.ChangeShapes Go.WideShapes Go.ChangeAt Go.RowKit Go.Deep

structure Doc where
  num : Int
  day : Int
  ents : List En
/-- A document's cells: its entries lie elsewhere. -/
structure DV where
  num : Int
  day : Int
  eA : Option Addr
  en : Nat
  ec : Nat
abbrev dvRow (x : DV) : Value := .slice x.eA x.en x.ec
def dvCell (x : DV) : List Value := [.int .i64 x.num, .int .i64 x.day, dvRow x]
theorem dvCell_len : ∀ y, (dvCell y).length = 3 := fun _ => rfl
theorem dvCell_one : ∀ x, ∀ u ∈ dvCell x, u.oneCell' = true := by
  intro x u hu
  simp only [dvCell, List.mem_cons, List.not_mem_nil, or_false] at hu
  rcases hu with rfl | rfl | rfl <;> rfl
theorem docInfo : (Try.prog.info? 49).map (fun i => (i.zero, i.size, i.bytes)) = some (some (.agg #[.int .i64 0, .int .i64 0, .slice none 0 0]), 3, 40) := by kernel_rfl

/-! ### documents that read as plain data -/
def DocFit (w : World) (x : DV) (d : Doc) : Prop := x.num = d.num ∧ x.day = d.day ∧ RS w 2 x.eA x.en (d.ents.flatMap enCell)
def DocsR (w : World) (A : Option Addr) (n : Nat) (ds : List Doc) : Prop :=
  ∃ vs : List DV, RS w 3 A n (vs.flatMap dvCell) ∧ vs.length = ds.length ∧ ∀ (i : Nat) (x : DV) (d : Doc), vs[i]? = some x → ds[i]? = some d → DocFit w x d
section
variable {w w' : World} {A : Option Addr} {n : Nat} {ds : List Doc}
theorem DocsR.below (h : DocsR w A n ds) (hb : Below w.heap.size w w') : DocsR w' A n ds := by
  obtain ⟨vs, h1, h2, h3⟩ := h
  exact ⟨vs, h1.below hb, h2, fun i x d hx hd => let ⟨a, b, c⟩ := h3 i x d hx hd; ⟨a, b, c.below hb⟩⟩
theorem DocsR.len (h : DocsR w A n ds) : ds.length = n := by
  obtain ⟨vs, h1, h2, _⟩ := h
  rw [← h2]; exact h1.flatLen dvCell_len (by omega)
theorem DocsR.docAt {k : Nat} (h : DocsR w A n ds) (hk : k < n) :
    ∃ g off, A = some ⟨g, off, none⟩ ∧ ∃ (d : Doc) (eA : Option Addr) (en ec : Nat), ds[k]? = some d ∧ w.cell? ⟨g, off + k * 3, none⟩ = some (.int .i64 d.num) ∧ w.cell? ⟨g, off + k * 3 + 1, none⟩ = some (.int .i64 d.day) ∧
      w.cell? ⟨g, off + k * 3 + 2, none⟩ = some (.slice eA en ec) ∧ RS w 2 eA en (d.ents.flatMap enCell) := by
  have hl := h.len
  obtain ⟨vs, h1, h2, h3⟩ := h
  obtain ⟨g, off, e, x, hx, hc⟩ := h1.flatAt dvCell_len (by omega) hk
  have hd : ds[k]? = some ds[k] := List.getElem?_eq_getElem (by omega)
  obtain ⟨a, b, c⟩ := h3 k x _ hx hd
  refine ⟨g, off, e, ds[k], x.eA, x.en, x.ec, hd, ?_, ?_, hc 2 (by omega), c⟩
  · rw [← a]; exact hc 0 (by omega)
  · rw [← b]; exact hc 1 (by omega)
end

/-! ### documents that a call made: each row in a block of its own, from lo on, below hi -/

def DocsOwn (w : World) (lo hi : Nat) (v : Value) (n : Nat) (ds : List Doc) : Prop :=
  ∃ vs : List DV, w.ownsRow lo 49 3 v n (vs.flatMap dvCell) ∧ vs.length = ds.length ∧ (∀ k, v.ownBlock = some k → k < hi) ∧
    (∀ (i : Nat) (x : DV) (d : Doc), vs[i]? = some x → ds[i]? = some d → x.num = d.num ∧ x.day = d.day ∧ w.ownsRow lo 47 2 (dvRow x) x.en (d.ents.flatMap enCell) ∧ ∀ k, (dvRow x).ownBlock = some k → k < hi) ∧
    (∀ (i j : Nat) (x y : DV), i < j → vs[i]? = some x → vs[j]? = some y → Apart (dvRow x) (dvRow y))
section
variable {w w' : World} {lo hi : Nat} {A : Option Addr} {v : Value} {n c : Nat} {ds : List Doc}
theorem DocsOwn.read (h : DocsOwn w lo hi (.slice A n c) n ds) : DocsR w A n ds := by
  obtain ⟨vs, h1, h2, _, h4, _⟩ := h
  exact ⟨vs, RS.of_own h1, h2, fun i x d hx hd => let ⟨a, b, o, _⟩ := h4 i x d hx hd; ⟨a, b, RS.of_own o⟩⟩
theorem DocsOwn.below (h : DocsOwn w lo hi v n ds) (hb : Below w.heap.size w w') : DocsOwn w' lo hi v n ds := by
  obtain ⟨vs, h1, h2, h3, h4, h5⟩ := h
  exact ⟨vs, own_below h1 hb, h2, h3, fun i x d hx hd => let ⟨a, b, o, k⟩ := h4 i x d hx hd; ⟨a, b, own_below o hb, k⟩, h5⟩
theorem DocsOwn.base {lo' : Nat} (h : DocsOwn w lo hi v n ds) (hl : lo' ≤ lo) : DocsOwn w lo' hi v n ds := by
  obtain ⟨vs, h1, h2, h3, h4, h5⟩ := h
  exact ⟨vs, own_base h1 hl, h2, h3, fun i x d hx hd => let ⟨a, b, o, k⟩ := h4 i x d hx hd; ⟨a, b, own_base o hl, k⟩, h5⟩
end

/-! ### an argument that comes in -/
section
variable {P : Program}
theorem open_flatW {α : Type} {H : Type} {enc : TypeId × Value → H} {w : World} {base : Nat} {spare : Nat → Bool} {held : Bool} {t e : TypeId} {sz : Nat} {f : α → List Value} {ok : α → Prop}
    (ht : P.underlying t = some (.slice e)) (hC : P.cellsOf e = sz) (hsz : 0 < sz) (hf : ∀ y, (f y).length = sz)
    (hfl : ∀ (n : Nat) (cs : List Value) (x : DataW H × List MemPlace), DataW.trod enc P w base spare held n e cs = some x → ∃ y : α, cs = f y ∧ ok y)
    {fuel : Nat} {v : Value} {x : DataW H × List MemPlace} (h : DataW.trod enc P w base spare held fuel t [v] = some x) :
    ∃ (A : Option Addr) (n c : Nat) (l : List α), v = .slice A n c ∧ RS w sz A n (l.flatMap f) ∧ l.length = n ∧ n ≤ c ∧ c ≤ maxLen ∧ ∀ y ∈ l, ok y := by
  rcases open_slice ht h with ⟨hc, _⟩ | ⟨a, len, cap, m, n, D, Pl, hcs, hb, hl, hm, hmm, _, hi⟩
  · obtain rfl : v = .slice none 0 0 := by simpa using hc
    exact ⟨none, 0, 0, [], rfl, RS.nil _ _ _, rfl, Nat.le_refl _, Nat.zero_le _, by simp⟩
  · obtain rfl : v = .slice (some a) len cap := by simpa using hcs
    have hlm : len ≤ m := by rw [hmm]; split <;> omega
    have hel : ∀ i, i < len → ∃ y : α, ok y ∧ ∀ j, j < sz → w.cell? (a.add (i * sz + j)) = (f y)[j]? := by
      intro i hil
      obtain ⟨cs', hc', ht'⟩ := hi i (by omega)
      obtain ⟨y, rfl, hok⟩ := hfl n cs' _ ht'
      obtain ⟨_, _, hat⟩ := World.cells?_some hc'
      refine ⟨y, hok, fun j hj => ?_⟩
      rw [hC] at hat
      rw [← Go.Deep.add_add]
      exact hat j hj
    obtain ⟨l, hll, hlo⟩ : ∃ l : List α, l.length = len ∧ ∀ i y, l[i]? = some y → ok y ∧ ∀ j, j < sz → w.cell? (a.add (i * sz + j)) = (f y)[j]? := by
      have key : ∀ k, k ≤ len → ∃ l : List α, l.length = k ∧ ∀ i y, l[i]? = some y → ok y ∧ ∀ j, j < sz → w.cell? (a.add (i * sz + j)) = (f y)[j]? := by
        intro k
        induction k with
        | zero => exact fun _ => ⟨[], rfl, by simp⟩
        | succ k ih =>
          intro hk
          obtain ⟨l, h1, h2⟩ := ih (by omega)
          obtain ⟨y, hy1, hy2⟩ := hel k (by omega)
          refine ⟨l ++ [y], by simp [h1], fun i z hz => ?_⟩
          rcases Nat.lt_or_ge i k with hik | hik
          · rw [List.getElem?_append_left (by omega)] at hz; exact h2 i z hz
          · rw [List.getElem?_append_right (by omega)] at hz
            have : i - l.length = 0 := by
              rcases Nat.eq_zero_or_pos (i - l.length) with h0 | h0
              · exact h0
              · rw [List.getElem?_eq_none (by simp; omega)] at hz; cases hz
            have hik' : i = k := by omega
            subst hik'
            rw [this] at hz
            simp at hz; subst hz
            exact ⟨hy1, hy2⟩
      exact key len (Nat.le_refl _)
    have hok : ∀ y ∈ l, ok y := fun y hy => by
      obtain ⟨i, hil, rfl⟩ := List.getElem_of_mem hy
      exact (hlo i _ (List.getElem?_eq_getElem hil)).1
    refine ⟨some a, len, cap, l, rfl, ⟨by rw [flat_len f hf, hll], fun hn => ?_⟩, hll, hl, hm, hok⟩
    obtain ⟨y0, hy0⟩ : ∃ y, l[0]? = some y := ⟨_, List.getElem?_eq_getElem (by omega)⟩
    have h00 := (hlo 0 y0 hy0).2 0 hsz
    obtain ⟨u0, hu0⟩ : ∃ u, (f y0)[0]? = some u := ⟨_, List.getElem?_eq_getElem (by rw [hf]; exact hsz)⟩
    rw [hu0, Nat.zero_mul, Nat.zero_add] at h00
    have ha := spot_none_add h00
    refine ⟨a.block, a.off, by rw [← ha], fun j u hu => ?_⟩
    have hjlt : j < len * sz := by
      have := (List.getElem?_eq_some_iff.1 hu).1
      rwa [flat_len f hf, hll] at this
    have hdiv : j / sz < len := by rw [Nat.div_lt_iff_lt_mul hsz]; exact hjlt
    have hmod : j % sz < sz := Nat.mod_lt _ hsz
    have hj : j / sz * sz + j % sz = j := by rw [Nat.mul_comm]; exact Nat.div_add_mod j sz
    obtain ⟨y, hy⟩ : ∃ y, l[j / sz]? = some y := ⟨_, List.getElem?_eq_getElem (by omega)⟩
    have h1 := (hlo _ y hy).2 _ hmod
    have h2 := flat_get f hf l _ y hy _ hmod
    rw [hj] at h1 h2
    rw [← add_mk, ← ha, h1, ← h2, hu]
end
def docOk (d : Doc) : Prop := i64 d.num ∧ i64 d.day ∧ d.ents.length ≤ 9223372036854775807 ∧ ∀ x ∈ d.ents, enOk x
def DVOk (w : World) (x : DV) : Prop := i64 x.num ∧ i64 x.day ∧ ∃ l : List En, RS w 2 x.eA x.en (l.flatMap enCell) ∧ x.en ≤ 9223372036854775807 ∧ ∀ y ∈ l, enOk y
theorem docs_of {w : World} : ∀ (vs : List DV), (∀ x ∈ vs, DVOk w x) → ∃ ds : List Doc, vs.length = ds.length ∧ (∀ (i : Nat) (x : DV) (d : Doc), vs[i]? = some x → ds[i]? = some d → DocFit w x d) ∧ ∀ d ∈ ds, docOk d
  | [], _ => ⟨[], rfl, by simp, by simp⟩
  | v :: vs, h => by
    obtain ⟨h1, h2, l, h3, h4, h5⟩ := h v (by simp)
    obtain ⟨ds, k1, k2, k3⟩ := docs_of vs (fun x hx => h x (by simp [hx]))
    refine ⟨⟨v.num, v.day, l⟩ :: ds, by simp [k1], fun i x d hx hd => ?_, fun d hd => ?_⟩
    · cases i with
      | zero => simp at hx hd; subst hx hd; exact ⟨rfl, rfl, h3⟩
      | succ i => exact k2 i x d (by simpa using hx) (by simpa using hd)
    · rcases List.mem_cons.1 hd with rfl | hd
      · exact ⟨h1, h2, by have := h3.flatLen enCell_len (by omega); simp only; omega, h5⟩
      · exact k3 d hd
set_option maxRecDepth 100000 in
theorem trod_docs {H : Type} {enc : TypeId × Value → H} {w : World} {base : Nat} {spare : Nat → Bool} {held : Bool} {fuel : Nat} {v : Value} {x : DataW H × List MemPlace}
    (hf : DataW.trod enc Try.prog w base spare held fuel 31 [v] = some x) :
    ∃ (A : Option Addr) (n c : Nat) (ds : List Doc), v = .slice A n c ∧ DocsR w A n ds ∧ n ≤ 9223372036854775807 ∧ ∀ y ∈ ds, docOk y := by
  have hfl : ∀ (n : Nat) (cs : List Value) (x : DataW H × List MemPlace), DataW.trod enc Try.prog w base spare held n 73 cs = some x → ∃ y : DV, cs = dvCell y ∧ DVOk w y := by
    intro n cs x h
    obtain ⟨hlen, m, hf⟩ := open_fields Try.underlying73 (by kernel_rfl) (by kernel_rfl) h
    obtain ⟨v0, y0, h0, t0⟩ := hf 0 _ rfl
    obtain ⟨v1, y1, h1, t1⟩ := hf 1 _ rfl
    obtain ⟨v2, y2, h2, t2⟩ := hf 2 _ rfl
    obtain ⟨a0, e0, _, w0⟩ := DataW.trod_int Try.underlying3 t0
    obtain ⟨a1, e1, _, w1⟩ := DataW.trod_int Try.underlying3 t1
    obtain ⟨A, n, c, l, hv, hr, hl, hn, hc, hok⟩ := open_flat (f := enCell) Try.underlying22 (by kernel_rfl : Try.prog.cellsOf 65 = 2) (by omega) (fun _ => rfl) enOpen t2
    simp only [List.cons.injEq, and_true] at e0 e1
    subst e0 e1 hv
    match cs, hlen with
    | [_, _, _], _ =>
      simp at h0 h1 h2
      exact ⟨⟨a0, a1, A, n, c⟩, by simp [dvCell, h0, h1, h2], i64_of w0, i64_of w1, l, hr, by unfold maxLen at hc; simp only; omega, hok⟩
  obtain ⟨A, n, c, vs, hv, hr, hl, hn, hc, hok⟩ := open_flatW (f := dvCell) (ok := DVOk w) Try.underlying31 (by kernel_rfl : Try.prog.cellsOf 73 = 3) (by omega) (fun _ => rfl) hfl hf
  obtain ⟨ds, k1, k2, k3⟩ := docs_of vs hok
  exact ⟨A, n, c, ds, hv, ⟨vs, hr, k1, k2⟩, by unfold maxLen at hc; omega, k3⟩
set_option maxRecDepth 100000 in
theorem open_docs {H : Type} {enc : TypeId × Value → H} {w : World} {base : Nat} {spare : Nat → Bool} {held : Bool} {r : Reach} {b0 : Nat} {v : Value} {d : DataW H} {p : List MemPlace}
    (hv : Value.okWide Try.prog w r b0 31 v) (h : DataW.Trod enc Try.prog w base spare held 31 v d p) :
    ∃ (A : Option Addr) (n c : Nat) (ds : List Doc), v = .slice A n c ∧ DocsR w A n ds ∧ n ≤ 9223372036854775807 ∧ ∀ y ∈ ds, docOk y := by
  obtain ⟨a0, len, cap, rfl⟩ := okWide_slice Try.underlying31 hv
  obtain ⟨fuel, hf⟩ := h
  exact trod_docs (by simpa [Value.cells] using hf)
end Go.Proofs.Ytefhgilnfdmnlaa
