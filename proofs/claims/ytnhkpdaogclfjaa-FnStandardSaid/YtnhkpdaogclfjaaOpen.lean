/- An argument that comes in, opened: a slice whose elements are flat structs (or plain values) reads as a list of plain data. No condition: over any program. -/
import Derived.Test.YtnhkpdaogclfjaaBase
import Derived.Deep.Slices
import Derived.Deep.Fields
import Derived.ChangeSame
namespace Go.Proofs.Ytnhkpdaogclfjaa
open Go.ChangeShapes Go.WideShapes Go.ChangeAt Go.RowKit Go.Deep

section
variable {P : Program}
/-- Whatever reads as type e, reads as the cells of a plain datum that is in order. -/
def FlatAs {α : Type} (P : Program) (e : TypeId) (cellsOf : α → List Value) (ok : α → Prop) : Prop :=
  ∀ (H : Type) (enc : TypeId × Value → H) (w : World) (base : Nat) (spare : Nat → Bool) (held : Bool) (n : Nat) (cs : List Value) (x : DataW H × List MemPlace),
    DataW.trod enc P w base spare held n e cs = some x → ∃ y : α, cs = cellsOf y ∧ ok y

theorem spot_none {w : World} {a : Addr} {v : Value} (h : w.cell? a = some v) : a = ⟨a.block, a.off, none⟩ := by
  obtain ⟨b, o, s⟩ := a
  have : s = none := by simpa using World.cell?_spot h
  subst this; rfl
theorem spot_none_add {w : World} {a : Addr} {v : Value} (h : w.cell? (a.add 0) = some v) : a = ⟨a.block, a.off, none⟩ := spot_none (by simpa [Addr.add] using h)
theorem add_mk (g off j : Nat) : (⟨g, off, none⟩ : Addr).add j = ⟨g, off + j, none⟩ := by
  unfold Addr.add
  split
  · next h => subst h; rfl
  · rfl

/-- The cells of a list, one block of 'sz' an element. -/
theorem flat_get {α : Type} (f : α → List Value) {sz : Nat} (hf : ∀ y, (f y).length = sz) : ∀ (l : List α) (i : Nat) (y : α), l[i]? = some y → ∀ j, j < sz → (l.flatMap f)[i * sz + j]? = (f y)[j]?
  | [], i, y, h, _, _ => by simp at h
  | z :: l, 0, y, h, j, hj => by
    simp at h; subst h
    rw [List.flatMap_cons, Nat.zero_mul, Nat.zero_add, List.getElem?_append_left (by rw [hf]; exact hj)]
  | z :: l, i + 1, y, h, j, hj => by
    rw [List.flatMap_cons, List.getElem?_append_right (by rw [hf, Nat.add_mul]; omega), hf]
    rw [show (i + 1) * sz + j - sz = i * sz + j by rw [Nat.add_mul]; omega]
    exact flat_get f hf l i y (by simpa using h) j hj
theorem flat_len {α : Type} (f : α → List Value) {sz : Nat} (hf : ∀ y, (f y).length = sz) : ∀ (l : List α), (l.flatMap f).length = l.length * sz
  | [] => by simp
  | z :: l => by rw [List.flatMap_cons, List.length_append, hf, flat_len f hf l, List.length_cons, Nat.add_mul]; omega

theorem open_flat {α : Type} {H : Type} {enc : TypeId × Value → H} {w : World} {base : Nat} {spare : Nat → Bool} {held : Bool} {t e : TypeId} {sz : Nat} {f : α → List Value} {ok : α → Prop}
    (ht : P.underlying t = some (.slice e)) (hC : P.cellsOf e = sz) (hsz : 0 < sz) (hf : ∀ y, (f y).length = sz) (hfl : FlatAs P e f ok)
    {fuel : Nat} {v : Value} {x : DataW H × List MemPlace} (h : DataW.trod enc P w base spare held fuel t [v] = some x) :
    ∃ (A : Option Addr) (n c : Nat) (l : List α), v = .slice A n c ∧ RS w sz A n (l.flatMap f) ∧ l.length = n ∧ n ≤ c ∧ c ≤ maxLen ∧ ∀ y ∈ l, ok y := by
  rcases open_slice ht h with ⟨hc, _⟩ | ⟨a, len, cap, m, n, D, Pl, hcs, hb, hl, hm, hmm, _, hi⟩
  · obtain rfl : v = .slice none 0 0 := by simpa using hc
    exact ⟨none, 0, 0, [], rfl, RS.nil _ _ _, rfl, Nat.le_refl _, Nat.zero_le _, by simp⟩
  · obtain rfl : v = .slice (some a) len cap := by simpa using hcs
    have hlm : len ≤ m := by rw [hmm]; split <;> omega
    have hel : ∀ i, i < len → ∃ y : α, ok y ∧ ∀ j, j < sz → w.cell? (a.add (i * sz + j)) = (f y)[j]? := by
      intro i hil
      obtain ⟨cs', hc', ht'⟩ := hi i (by omega)
      obtain ⟨y, rfl, hok⟩ := hfl H enc w base spare held n cs' _ ht'
      obtain ⟨_, _, hat⟩ := World.cells?_some hc'
      refine ⟨y, hok, fun j hj => ?_⟩
      rw [hC] at hat
      rw [← Go.Deep.add_add]
      exact hat j hj
    obtain ⟨l, hll, hlo⟩ : ∃ l : List α, l.length = len ∧ ∀ i y, l[i]? = some y → ok y ∧ ∀ j, j < sz → w.cell? (a.add (i * sz + j)) = (f y)[j]? := by
      have key : ∀ k, k ≤ len → ∃ l : List α, l.length = k ∧ ∀ i y, l[i]? = some y → ok y ∧ ∀ j, j < sz → w.cell? (a.add (i * sz + j)) = (f y)[j]? := by
        intro k
        induction k with
        | zero => exact fun _ => ⟨[], rfl, by simp⟩
        | succ k ih =>
          intro hk
          obtain ⟨l, h1, h2⟩ := ih (by omega)
          obtain ⟨y, hy1, hy2⟩ := hel k (by omega)
          refine ⟨l ++ [y], by simp [h1], fun i z hz => ?_⟩
          rcases Nat.lt_or_ge i k with hik | hik
          · rw [List.getElem?_append_left (by omega)] at hz; exact h2 i z hz
          · rw [List.getElem?_append_right (by omega)] at hz
            have : i - l.length = 0 := by
              rcases Nat.eq_zero_or_pos (i - l.length) with h0 | h0
              · exact h0
              · rw [List.getElem?_eq_none (by simp; omega)] at hz; cases hz
            have hik' : i = k := by omega
            subst hik'
            rw [this] at hz
            simp at hz; subst hz
            exact ⟨hy1, hy2⟩
      exact key len (Nat.le_refl _)
    have hok : ∀ y ∈ l, ok y := fun y hy => by
      obtain ⟨i, hil, rfl⟩ := List.getElem_of_mem hy
      exact (hlo i _ (List.getElem?_eq_getElem hil)).1
    refine ⟨some a, len, cap, l, rfl, ⟨by rw [flat_len f hf, hll], fun hn => ?_⟩, hll, hl, hm, hok⟩
    obtain ⟨y0, hy0⟩ : ∃ y, l[0]? = some y := ⟨_, List.getElem?_eq_getElem (by omega)⟩
    have h00 := (hlo 0 y0 hy0).2 0 hsz
    obtain ⟨u0, hu0⟩ : ∃ u, (f y0)[0]? = some u := ⟨_, List.getElem?_eq_getElem (by rw [hf]; exact hsz)⟩
    rw [hu0, Nat.zero_mul, Nat.zero_add] at h00
    have ha := spot_none_add h00
    refine ⟨a.block, a.off, by rw [← ha], fun j u hu => ?_⟩
    have hjlt : j < len * sz := by
      have := (List.getElem?_eq_some_iff.1 hu).1
      rwa [flat_len f hf, hll] at this
    have hdiv : j / sz < len := by rw [Nat.div_lt_iff_lt_mul hsz]; exact hjlt
    have hmod : j % sz < sz := Nat.mod_lt _ hsz
    have hj : j / sz * sz + j % sz = j := by rw [Nat.mul_comm]; exact Nat.div_add_mod j sz
    obtain ⟨y, hy⟩ : ∃ y, l[j / sz]? = some y := ⟨_, List.getElem?_eq_getElem (by omega)⟩
    have h1 := (hlo _ y hy).2 _ hmod
    have h2 := flat_get f hf l _ y hy _ hmod
    rw [hj] at h1 h2
    rw [← add_mk, ← ha, h1, ← h2, hu]

/-- The fields of a struct of one-cell fields: each its own reading. -/
theorem open_fields {H : Type} {enc : TypeId × Value → H} {w : World} {base : Nat} {spare : Nat → Bool} {held : Bool} {e : TypeId} {fs : Array Field} {n : Nat} {cs : List Value} {x : DataW H × List MemPlace}
    (he : P.underlying e = some (.struct fs)) (hone : oneCellFields P fs = true) (hC : P.cellsOf e = fs.size) (h : DataW.trod enc P w base spare held n e cs = some x) :
    cs.length = fs.size ∧ ∃ m, ∀ (j : Nat) (f : Field), fs[j]? = some f → ∃ v y, cs[j]? = some v ∧ DataW.trod enc P w base spare held m f.type [v] = some y := by
  obtain ⟨ys, n', hn', hy, hlen, hyl, hf⟩ := DataW.trod_struct he h
  rw [hC] at hlen
  refine ⟨hlen, n', fun j f hj => ?_⟩
  obtain ⟨ho, hk⟩ := hone_of hone j f hj
  have hjl : j < fs.size := (Array.getElem?_eq_some_iff.1 hj).1
  have h1 := hf j f hj
  rw [ho, hk] at h1
  have hone' : (cs.drop j).take 1 = [cs[j]'(by omega)] := by
    rw [List.drop_eq_getElem_cons (by omega)]
    rfl
  rw [hone'] at h1
  have hys : ys[j]? = some (ys[j]'(by omega)) := List.getElem?_eq_getElem (by omega)
  exact ⟨_, _, List.getElem?_eq_getElem (by omega), h1.trans hys⟩
end

theorem Try.laidOut : laidOutB Try.prog = true := by kernel_rfl
theorem Try.own : ownKnob Try.prog.godebug = none := by kernel_rfl

/-- An int that Go can hold. -/
def i64 (n : Int) : Prop := -9223372036854775808 ≤ n ∧ n ≤ 9223372036854775807

theorem i64_of {n : Int} (h : (Lit.int .i64 n).wf = true) : i64 n := bounds_i64 h

/-! ### the row's last step, where the call has made memory, left the old as it was, and answers true -/
section
variable {H : Type} {enc : TypeId × Value → H} {P : Program}
theorem all_stays (hl : laidOutB P = true) {W W' : World} (hb : Below W.heap.size W W') : ∀ (ts : List TypeId) (vs : List Value) (ds : List (DataW H)) (p : List MemPlace), (ts.all fun t => P.readableRec t && decide (t < P.types.size)) = true →
    DataW.TrodAll enc P W 0 (fun _ => true) true ts vs ds p → (∀ x ∈ p, x.block < W.heap.size) → DataW.TrodAll enc P W' 0 (fun b => decide (b < W.heap.size)) true ts vs ds p
  | [], [], [], _, _, h, _ => h
  | t :: ts, v :: vs, d :: ds, p, ht, h, hlt => by
    obtain ⟨q, r, h1, h2, rfl⟩ := h
    simp only [List.all_cons, Bool.and_eq_true, decide_eq_true_eq] at ht
    exact ⟨q, r, Below.trod hl ht.1.1 ht.1.2 h1 hb fun x hx => hlt x (by simp [hx]), all_stays hl hb ts vs ds r ht.2 h2 fun x hx => hlt x (by simp [hx]), rfl⟩
  | [], [], _ :: _, _, _, h, _ => h.elim
  | [], _ :: _, _, _, _, h, _ => h.elim
  | _ :: _, [], _, _, _, h, _ => h.elim
  | _ :: _, _ :: _, [], _, _, h, _ => h.elim

/-- A law: the call answers true, and nothing that was there has turned. -/
theorem law_post {f : Func} {s : ChangeSpec} {W W' : World} {args : Array Value} {ds gs : List (DataW H)} {before : List MemPlace} {t : TypeId} (hl : laidOutB P = true)
    (hts : (f.params.toList.all fun t => P.readableRec t && decide (t < P.types.size)) = true) (hrt : f.resultTypes = #[t]) (hbool : P.underlying t = some .bool)
    (hW : DataW.Whole enc P f.params.toList s.vars false W args.toList ds gs before) (hv : s.vars = [])
    (hs : (s.fn H (ds ++ gs)).results = [.lit (.bool true)] ∧ (s.fn H (ds ++ gs)).args = ds ∧ (s.fn H (ds ++ gs)).vars = []) (hb : Below W.heap.size W W') :
    s.post enc P f false true false false W args (.bool true) W' := by
  have hW' := hW
  obtain ⟨p, q, hA, hV, rfl, _, _⟩ := hW
  rw [hv] at hV
  obtain ⟨rfl, rfl⟩ := trodVars_none hV
  refine ⟨ds, [], p ++ [], [], p, [], hW', ?_, ?_, ?_, World.keptBut_mono (fun x hx => ⟨hx, Or.inr (Or.inl (by simpa using hx))⟩) (hb.frame (· ∈ p ++ [])), fun h => by cases h⟩
  · rw [hs.1, hrt]
    exact trodAll_cons_mk (shut_bool hbool _) trodAll_mk0
  · rw [hs.2.1]
    exact all_stays hl hb _ _ _ _ hts hA fun x hx => hW'.lt x (by simpa using hx)
  · rw [hs.2.2, hv]
    rfl
end
end Go.Proofs.Ytnhkpdaogclfjaa
