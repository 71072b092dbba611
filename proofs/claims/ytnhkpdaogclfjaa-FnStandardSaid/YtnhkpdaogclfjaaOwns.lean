/- Rows that a call owns, apart from each other, in the blocks from lo on below hi; worlds that differ in these blocks alone. No condition. -/
import Derived.Test.YtnhkpdaogclfjaaMore
namespace Go.Proofs.Ytnhkpdaogclfjaa
open Go.ChangeShapes Go.WideShapes Go.ChangeAt Go.RowKit

def Apart (v v' : Value) : Prop := v.ownBlock = none ∨ v.ownBlock ≠ v'.ownBlock
theorem Apart.symm {v v' : Value} (h : Apart v v') : Apart v' v := apart_symm h

/-! ### worlds that differ in the blocks from lo on below hi alone -/
structure Within (lo hi : Nat) (w w' : World) : Prop where
  os : w'.os = w.os
  tape : w'.tape = w.tape
  output : w'.output = w.output
  size : w.heap.size ≤ w'.heap.size
  block : ∀ k, k < w.heap.size → ¬ (lo ≤ k ∧ k < hi) → w'.heap[k]? = w.heap[k]?
section
variable {lo hi lo' hi' B : Nat} {a w w' w'' : World}
theorem Within.refl (lo hi : Nat) (w : World) : Within lo hi w w := ⟨rfl, rfl, rfl, Nat.le_refl _, fun _ _ _ => rfl⟩
theorem Within.trans (h : Within lo hi w w') (k : Within lo hi w' w'') : Within lo hi w w'' :=
  ⟨k.os.trans h.os, k.tape.trans h.tape, k.output.trans h.output, Nat.le_trans h.size k.size, fun i hi hn => (k.block i (Nat.lt_of_lt_of_le hi h.size) hn).trans (h.block i hi hn)⟩
theorem Within.mono (h : Within lo hi w w') (hl : lo' ≤ lo) (hh : hi ≤ hi') : Within lo' hi' w w' :=
  ⟨h.os, h.tape, h.output, h.size, fun i h1 hn => h.block i h1 (fun hc => hn ⟨by omega, by omega⟩)⟩
theorem Within.of_below (hb : Below w.heap.size w w') : Within lo hi w w' := ⟨hb.os, hb.tape, hb.output, hb.size, fun i h1 _ => hb.block i h1⟩
theorem Within.of_grown {row : Option Nat} (hg : w.grownBy w' row) (hr : ∀ k, row = some k → lo ≤ k ∧ k < hi) : Within lo hi w w' :=
  ⟨hg.os, hg.tape, hg.output, hg.size, fun i h1 hn => hg.block i h1 (fun e => hn (hr i e.symm))⟩
theorem below_within (hb : Below B a w) (h : Within lo hi w w') (hB : B ≤ lo) (hs : B ≤ w.heap.size) : Below B a w' :=
  hb.trans ⟨h.os, h.tape, h.output, h.size, fun i h1 => h.block i (by omega) (by omega)⟩
end

/-! ### rows -/
structure Row where
  ty : TypeId
  sz : Nat
  v : Value
  n : Nat
  xs : List Value
def Row.At (w : World) (lo hi : Nat) (r : Row) : Prop := w.ownsRow lo r.ty r.sz r.v r.n r.xs ∧ ∀ k, r.v.ownBlock = some k → k < hi
def Owns (w : World) (lo hi : Nat) (rs : List Row) : Prop := (∀ r ∈ rs, r.At w lo hi) ∧ rs.Pairwise (fun a b => Apart a.v b.v)
section
variable {lo hi lo' hi' B : Nat} {w w' : World} {rs rs' : List Row} {r : Row}
/-- A row whose block is as it was. -/
theorem own_blk {base size n : Nat} {e : TypeId} {v : Value} {xs : List Value} (h : w.ownsRow base e size v n xs) (hk : ∀ k, v.ownBlock = some k → w'.heap[k]? = w.heap[k]?) : w'.ownsRow base e size v n xs := by
  refine ⟨h.1, ?_⟩
  rcases h.2 with hn | ⟨g, cap, cur, rfl, hb, hgg, rest⟩
  · exact .inl hn
  · exact .inr ⟨g, cap, cur, rfl, hb, by rw [hk g rfl]; exact hgg, rest⟩
/-- A row's block is none that is made later. -/
theorem own_ne {base size n k : Nat} {e : TypeId} {v : Value} {xs : List Value} (h : w.ownsRow base e size v n xs) (hk : w.heap.size ≤ k) : v.ownBlock = none ∨ v.ownBlock ≠ some k := by
  cases hv : v.ownBlock with
  | none => exact .inl rfl
  | some q => exact .inr fun he => by have := (h.lt q hv).2; injection he with he; omega
theorem Owns.nil (w : World) (lo hi : Nat) : Owns w lo hi [] := ⟨by simp, List.Pairwise.nil⟩
theorem Owns.top (h : Owns w lo hi rs) : Owns w lo w.heap.size rs := ⟨fun r hr => ⟨(h.1 r hr).1, fun k hk => ((h.1 r hr).1.lt k hk).2⟩, h.2⟩
theorem Owns.mono (h : Owns w lo hi rs) (hl : lo' ≤ lo) (hh : hi ≤ hi') : Owns w lo' hi' rs := ⟨fun r hr => ⟨own_base (h.1 r hr).1 hl, fun k hk => Nat.lt_of_lt_of_le ((h.1 r hr).2 k hk) hh⟩, h.2⟩
theorem Owns.within (h : Owns w lo hi rs) (hw : Within lo' hi' w w') (hd : hi ≤ lo' ∨ hi' ≤ lo) : Owns w' lo hi rs :=
  ⟨fun r hr => ⟨own_blk (h.1 r hr).1 fun k hk => hw.block k ((h.1 r hr).1.lt k hk).2 (by have := (h.1 r hr).2 k hk; have := ((h.1 r hr).1.lt k hk).1; omega), (h.1 r hr).2⟩, h.2⟩
theorem Owns.below (h : Owns w lo hi rs) (hb : Below w.heap.size w w') : Owns w' lo hi rs :=
  ⟨fun r hr => ⟨own_below (h.1 r hr).1 hb, (h.1 r hr).2⟩, h.2⟩
theorem Owns.perm (h : Owns w lo hi rs) (hp : rs.Perm rs') : Owns w lo hi rs' :=
  ⟨fun r hr => h.1 r (hp.mem_iff.2 hr), (hp.pairwise_iff (fun h => Apart.symm h)).1 h.2⟩
theorem Owns.sub (h : Owns w lo hi rs) (hp : rs'.Sublist rs) : Owns w lo hi rs' := ⟨fun r hr => h.1 r (hp.subset hr), h.2.sublist hp⟩
theorem Owns.left (h : Owns w lo hi (rs ++ rs')) : Owns w lo hi rs := h.sub (List.sublist_append_left _ _)
theorem Owns.right (h : Owns w lo hi (rs ++ rs')) : Owns w lo hi rs' := h.sub (List.sublist_append_right _ _)
theorem Owns.get (h : Owns w lo hi rs) (hr : r ∈ rs) : w.ownsRow lo r.ty r.sz r.v r.n r.xs := (h.1 r hr).1
theorem Owns.own1 {ty : TypeId} {sz n : Nat} {v : Value} {xs : List Value} (h : Owns w lo hi [⟨ty, sz, v, n, xs⟩]) : w.ownsRow lo ty sz v n xs := h.get (List.mem_singleton.2 rfl)
/-- A row at a place turns; its block is the same, or a new one. -/
theorem Owns.turn {i : Nat} {v' : Value} {n' : Nat} {xs' : List Value} (h : Owns w lo hi rs) (hr : rs[i]? = some r) (hg : w.grownBy w' r.v.ownBlock) (ho : w'.ownsRow lo r.ty r.sz v' n' xs') (hv : v'.ownBlock = r.v.ownBlock ∨ ∀ k, v'.ownBlock = some k → w.heap.size ≤ k) :
    Owns w' lo w'.heap.size (rs.set i ⟨r.ty, r.sz, v', n', xs'⟩) := by
  have hpw := List.pairwise_iff_getElem.1 h.2
  have hi' := (List.getElem?_eq_some_iff.1 hr).1
  have he := (List.getElem?_eq_some_iff.1 hr).2
  have key : ∀ (j : Nat) (hj : j < rs.length), j ≠ i → Apart (rs[j]).v r.v := by
    intro j hj hne
    rcases Nat.lt_or_gt_of_ne hne with hlt | hlt
    · have := hpw j i hj hi' hlt; rwa [he] at this
    · have := hpw i j hi' hj hlt; rw [he] at this; exact this.symm
  have key2 : ∀ (j : Nat) (hj : j < rs.length), j ≠ i → Apart (rs[j]).v v' := by
    intro j hj hne
    rcases hv with e | e
    · have := key j hj hne; unfold Apart at this ⊢; rw [e]; exact this
    · unfold Apart
      cases hb : (rs[j]).v.ownBlock with
      | none => exact .inl rfl
      | some q => refine .inr fun hc => ?_
                  have h1 := ((h.1 _ (List.getElem_mem hj)).1.lt q hb).2
                  have h2 := e q hc.symm
                  omega
  refine ⟨fun x hx => ?_, ?_⟩
  · obtain ⟨j, hj, rfl⟩ := List.getElem_of_mem hx
    have hj' : j < rs.length := by simpa using hj
    by_cases hji : j = i
    · subst hji
      simp only [List.getElem_set_self]
      exact ⟨ho, fun k hk => (ho.lt k hk).2⟩
    · rw [List.getElem_set_ne (Ne.symm hji)]
      have := h.1 _ (List.getElem_mem hj')
      exact ⟨own_grown this.1 hg (key j hj' hji), fun k hk => Nat.lt_of_lt_of_le (this.1.lt k hk).2 hg.size⟩
  · rw [List.pairwise_iff_getElem]
    intro j k hj hk hjk
    have hj' : j < rs.length := by simpa using hj
    have hk' : k < rs.length := by simpa using hk
    by_cases hji : j = i
    · subst hji
      simp only [List.getElem_set_self]
      rw [List.getElem_set_ne (show j ≠ k by omega)]
      exact (key2 k hk' (by omega)).symm
    · rw [List.getElem_set_ne (Ne.symm hji)]
      by_cases hki : k = i
      · subst hki
        simp only [List.getElem_set_self]
        exact key2 j hj' hji
      · rw [List.getElem_set_ne (Ne.symm hki)]
        exact hpw j k hj' hk' hjk
/-- The same, where the row's block stays: the bounds stay too. -/
theorem Owns.turnIn {i : Nat} {v' : Value} {n' : Nat} {xs' : List Value} (h : Owns w lo hi rs) (hr : rs[i]? = some r) (hg : w.grownBy w' r.v.ownBlock) (ho : w'.ownsRow lo r.ty r.sz v' n' xs') (hv : v'.ownBlock = r.v.ownBlock) :
    Owns w' lo hi (rs.set i ⟨r.ty, r.sz, v', n', xs'⟩) := by
  have t := (h.top).turn hr hg ho (.inl hv)
  refine ⟨fun x hx => ⟨(t.1 x hx).1, fun k hk => ?_⟩, t.2⟩
  rcases List.mem_or_eq_of_mem_set hx with hm | rfl
  · exact (h.1 x hm).2 k hk
  · simp only at hk
    rw [hv] at hk
    exact (h.1 r (List.mem_of_getElem? hr)).2 k hk
theorem Owns.within_of (h : Owns w lo hi rs) {i : Nat} (hr : rs[i]? = some r) (hg : w.grownBy w' r.v.ownBlock) : Within lo hi w w' :=
  Within.of_grown hg fun k hk => ⟨((h.1 r (List.mem_of_getElem? hr)).1.lt k hk).1, (h.1 r (List.mem_of_getElem? hr)).2 k hk⟩
/-- Rows of a later making join. -/
theorem Owns.join (h : Owns w lo hi rs) (hb : Below w.heap.size w w') (h' : Owns w' B hi' rs') (hB : w.heap.size ≤ B) (hl : lo ≤ B) : Owns w' lo w'.heap.size (rs' ++ rs) := by
  refine ⟨fun x hx => ?_, List.pairwise_append.2 ⟨h'.2, h.2, fun a ha b hb' => ?_⟩⟩
  · rcases List.mem_append.1 hx with hm | hm
    · have := own_base (h'.1 x hm).1 hl
      exact ⟨this, fun k hk => (this.lt k hk).2⟩
    · have := own_below (h.1 x hm).1 hb
      exact ⟨this, fun k hk => (this.lt k hk).2⟩
  · exact Apart.symm (own_apart (h.1 b hb').1 (h'.1 a ha).1 hB)
/-- One new row. -/
theorem Owns.cons {ty : TypeId} {sz n : Nat} {v : Value} {xs : List Value} (h : Owns w lo hi rs) (hb : Below w.heap.size w w') (ho : w'.ownsRow B ty sz v n xs) (hB : w.heap.size ≤ B) (hl : lo ≤ B) : Owns w' lo w'.heap.size (⟨ty, sz, v, n, xs⟩ :: rs) :=
  h.join (rs' := [⟨ty, sz, v, n, xs⟩]) (hi' := w'.heap.size) hb ⟨by intro x hx; obtain rfl := List.mem_singleton.1 hx; exact ⟨ho, fun k hk => (ho.lt k hk).2⟩, List.pairwise_singleton _ _⟩ hB hl
theorem Owns.one {ty : TypeId} {sz n : Nat} {v : Value} {xs : List Value} (ho : w.ownsRow lo ty sz v n xs) : Owns w lo w.heap.size [⟨ty, sz, v, n, xs⟩] :=
  ⟨by intro x hx; obtain rfl := List.mem_singleton.1 hx; exact ⟨ho, fun k hk => (ho.lt k hk).2⟩, List.pairwise_singleton _ _⟩
end
end Go.Proofs.Ytnhkpdaogclfjaa
