/- Stacks of bools in a row that a call owns; conditions decided on them: plain words. No condition. -/
import Derived.Test.YtnhkpdaogclfjaaCondP
import Derived.Test.YtnhkpdaogclfjaaMore
namespace Go.Proofs.Ytnhkpdaogclfjaa
open Go.ChangeShapes Go.WideShapes Go.ChangeAt Go.RowKit

theorem boolInfo : (Try.prog.info? 4).map (fun i => (i.zero, i.size, i.bytes)) = some (some (.bool false), 1, 1) := by kernel_rfl
def bCells (s : List Bool) : List Value := s.map Value.bool
theorem bCells_len (s : List Bool) : (bCells s).length = s.length := by simp [bCells]
theorem bCells_one (s : List Bool) : ∀ u ∈ bCells s, u.oneCell' = true := by
  intro u hu
  obtain ⟨b, _, rfl⟩ := List.mem_map.1 hu
  rfl
theorem bCells_snoc (s : List Bool) (b : Bool) : bCells s ++ [.bool b] = bCells (s ++ [b]) := by simp [bCells]
theorem bCells_set (s : List Bool) (k : Nat) (b : Bool) : (bCells s).set k (.bool b) = bCells (s.set k b) := by simp [bCells, List.map_set]
theorem bCells_take (s : List Bool) (k : Nat) : (bCells s).take (k * 1) = bCells (s.take k) := by simp [bCells, List.map_take]
theorem bCells_at {s : List Bool} {k : Nat} {b : Bool} (h : s[k]? = some b) : (bCells s)[k]? = some (.bool b) := by simp [bCells, h]
theorem own_pre {w : World} {base size n c k : Nat} {e : TypeId} {A : Option Addr} {xs : List Value} (h : w.ownsRow base e size (.slice A n c) n xs) (hk : k ≤ n) : w.ownsRow base e size (.slice A k c) k (xs.take (k * size)) := by
  have hl := h.1
  have hks : k * size ≤ n * size := Nat.mul_le_mul_right _ hk
  refine ⟨by rw [List.length_take]; omega, ?_⟩
  rcases h.2 with ⟨hv, h0⟩ | ⟨g, cap, cur, hv, hb, hg, hn, hm, hs, ht⟩
  · injection hv with h1 h2 h3
    subst h1 h3
    exact .inl ⟨by rw [show k = 0 by omega], by omega⟩
  · injection hv with h1 _ h3
    subst h1 h3
    exact .inr ⟨g, c, cur, rfl, hb, hg, by omega, hm, hs, by rw [← ht, List.take_take, Nat.min_eq_left hks]⟩
theorem set_last {α : Type} {s : List α} {k : Nat} (v : α) (h : s.length = k + 1) : s.set k v = s.take k ++ [v] := by
  rw [List.set_eq_take_append_cons_drop, if_pos (by omega), List.drop_eq_nil_of_le (by omega)]
theorem set_take {α : Type} {s : List α} {k : Nat} (v : α) (h : k < s.length) : (s.set k v).take (k + 1) = s.take k ++ [v] := by
  rw [List.set_eq_take_append_cons_drop, if_pos h, List.take_append]
  simp [List.length_take, Nat.min_eq_left (Nat.le_of_lt h), List.take_of_length_le]
theorem evStep_0 (ch : List Pk) (s : List Bool) (o v : ByteArray) : evStep ch s ⟨0, o, v⟩ = s ++ [true] := by simp [evStep]
theorem evStep_1 (ch : List Pk) (s : List Bool) (o v : ByteArray) : evStep ch s ⟨1, o, v⟩ = s ++ [picked ch ⟨1, o, v⟩] := by simp [evStep]
theorem evStep_2 {ch : List Pk} {s : List Bool} {o v : ByteArray} {k : Nat} {b : Bool} (hl : s.length = k + 1) (h : s[k]? = some b) : evStep ch s ⟨2, o, v⟩ = s.take k ++ [!b] := by
  obtain ⟨q, rfl⟩ := List.getElem?_eq_some_iff.1 h
  simp [evStep, hl]
theorem evStep_3 {ch : List Pk} {s : List Bool} {o v : ByteArray} {k : Nat} {b b' : Bool} (hl : s.length = k + 2) (h : s[k]? = some b) (h' : s[k + 1]? = some b') : evStep ch s ⟨3, o, v⟩ = s.take k ++ [b && b'] := by
  obtain ⟨q, rfl⟩ := List.getElem?_eq_some_iff.1 h
  obtain ⟨q', rfl⟩ := List.getElem?_eq_some_iff.1 h'
  simp [evStep, hl]
theorem evStep_4 {ch : List Pk} {s : List Bool} {o v : ByteArray} {k : Nat} {b b' : Bool} (hl : s.length = k + 2) (h : s[k]? = some b) (h' : s[k + 1]? = some b') : evStep ch s ⟨4, o, v⟩ = s.take k ++ [b || b'] := by
  obtain ⟨q, rfl⟩ := List.getElem?_eq_some_iff.1 h
  obtain ⟨q', rfl⟩ := List.getElem?_eq_some_iff.1 h'
  simp [evStep, hl]
/-- What is left to do, at a stack: the condition fits, and the answer stays. -/
def EvRel (ch : List Pk) (l : List Cn) (k : Nat) (s : List Bool) : Prop := condC s.length (l.drop k) = true ∧ evalC ch l = (evalS ch s (l.drop k)).getD 0 false
theorem evRel_start {ch : List Pk} {l : List Cn} (h : isCond l = true) : EvRel ch l 0 [] := by
  simp only [isCond, Bool.and_eq_true] at h
  exact ⟨by simpa using h.2, by simp [evalC]⟩
theorem evRel_need {ch : List Pk} {l : List Cn} {k : Nat} {s : List Bool} {x : Cn} (h : EvRel ch l k s) (hx : l[k]? = some x) : 0 ≤ cnNeed x.kind ∧ cnNeed x.kind ≤ s.length := by
  have := h.1
  rw [drop_cons hx] at this
  have := condC_cons this
  exact ⟨this.1, this.2.1⟩
theorem evRel_step {ch : List Pk} {l : List Cn} {k : Nat} {s : List Bool} {x : Cn} (h : EvRel ch l k s) (hx : l[k]? = some x) : EvRel ch l (k + 1) (evStep ch s x) := by
  have hn := evRel_need h hx
  refine ⟨?_, by rw [h.2, evalS_at s hx]⟩
  have := h.1
  rw [drop_cons hx] at this
  rw [evStep_len hn.1 hn.2]
  exact (condC_cons this).2.2.2
theorem evRel_end {ch : List Pk} {l : List Cn} {k : Nat} {s : List Bool} (h : EvRel ch l k s) (hk : l.length ≤ k) : ∃ b, s = [b] ∧ evalC ch l = b := by
  have hd : l.drop k = [] := List.drop_eq_nil_of_le hk
  obtain ⟨h1, h2⟩ := h
  rw [hd] at h1 h2
  simp only [condC, decide_eq_true_eq] at h1
  match s, h1 with
  | [b], _ => exact ⟨b, rfl, by simpa [evalS] using h2⟩
  | [], h1 => simp at h1
  | _ :: _ :: _, h1 => simp at h1; omega
theorem holds_of {l : List Cn} {ch : List Pk} (h : isCond l = true) : holds l ch = evalC ch l := by simp [holds, h]
theorem any_take {α : Type} {p : α → Bool} {l : List α} {j : Nat} {x : α} (h : l[j]? = some x) : (l.take (j + 1)).any p = ((l.take j).any p || p x) := by
  rw [List.take_add_one, h]; simp
end Go.Proofs.Ytnhkpdaogclfjaa
