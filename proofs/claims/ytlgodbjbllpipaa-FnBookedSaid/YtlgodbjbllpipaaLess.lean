/- The order of texts: the plain laws. No condition. -/
import Derived.Test.YtlgodbjbllpipaaTextEq
import Derived.Sort.Walk0
namespace Go.Proofs.Ytlgodbjbllpipaa
open Go.ChangeShapes Go.WideShapes Go.ChangeAt Go.RowKit

theorem less_irrefl : ∀ x : List UInt8, Op.bytesLess x x = false
  | [] => rfl
  | a :: x => by simp [Op.bytesLess, less_irrefl x]
theorem less_trans : ∀ {x y z : List UInt8}, Op.bytesLess x y = true → Op.bytesLess y z = true → Op.bytesLess x z = true
  | [], [], _, h, _ => by simp [Op.bytesLess] at h
  | [], _ :: _, [], _, h => by simp [Op.bytesLess] at h
  | [], _ :: _, _ :: _, _, _ => rfl
  | _ :: _, [], _, h, _ => by simp [Op.bytesLess] at h
  | _ :: _, _ :: _, [], _, h => by simp [Op.bytesLess] at h
  | a :: x, b :: y, c :: z, h, k => by
    simp only [Op.bytesLess, Bool.or_eq_true, Bool.and_eq_true, decide_eq_true_eq, beq_iff_eq] at h k ⊢
    rcases h with h | ⟨rfl, h⟩
    · rcases k with k | ⟨rfl, k⟩
      · exact .inl (UInt8.lt_trans h k)
      · exact .inl h
    · rcases k with k | ⟨rfl, k⟩
      · exact .inl k
      · exact .inr ⟨rfl, less_trans h k⟩
theorem less_tri : ∀ {x y : List UInt8}, Op.bytesLess x y = false → Op.bytesLess y x = false → x = y
  | [], [], _, _ => rfl
  | [], _ :: _, h, _ => by simp [Op.bytesLess] at h
  | _ :: _, [], _, h => by simp [Op.bytesLess] at h
  | a :: x, b :: y, h, k => by
    simp only [Op.bytesLess, Bool.or_eq_false_iff, decide_eq_false_iff_not, Bool.and_eq_false_imp, beq_iff_eq] at h k
    have e : a = b := by
      rcases UInt8.lt_or_lt_of_ne (a := a) (b := b) |> fun f => Classical.em (a = b) with h1 | h1
      · exact h1
      · rcases UInt8.lt_or_lt_of_ne h1 with h2 | h2
        · exact absurd h2 h.1
        · exact absurd h2 k.1
    subst e
    rw [less_tri (h.2 rfl) (k.2 rfl)]
theorem less_asymm {x y : List UInt8} (h : Op.bytesLess x y = true) : Op.bytesLess y x = false := by
  cases k : Op.bytesLess y x
  · rfl
  · have := less_trans h k; rw [less_irrefl] at this; cases this
def txtLess (a b : ByteArray) : Bool := Op.bytesLess a.toList b.toList
theorem txt_irrefl (a : ByteArray) : txtLess a a = false := less_irrefl _
theorem txt_trans {a b c : ByteArray} (h : txtLess a b = true) (k : txtLess b c = true) : txtLess a c = true := less_trans h k
theorem txt_tri {a b : ByteArray} (h : txtLess a b = false) (k : txtLess b a = false) : a = b := text_inj (less_tri h k)
theorem txt_asymm {a b : ByteArray} (h : txtLess a b = true) : txtLess b a = false := less_asymm h
theorem txt_ne {a b : ByteArray} (h : txtLess a b = true) : a ≠ b := fun e => by rw [e, txt_irrefl] at h; cases h

/-! ### rising lists -/
def Rising {α : Type} (f : α → ByteArray) (l : List α) : Prop := l.Pairwise (fun a b => txtLess (f a) (f b) = true)
/-- Two rising lists with the same members are one. -/
theorem rising_ext {α : Type} {f : α → ByteArray} : ∀ {l m : List α}, Rising f l → Rising f m → (∀ x, x ∈ l ↔ x ∈ m) → l = m
  | [], [], _, _, _ => rfl
  | [], y :: m, _, _, h => by have := (h y).2 (by simp); simp at this
  | x :: l, [], _, _, h => by have := (h x).1 (by simp); simp at this
  | x :: l, y :: m, hl, hm, h => by
    obtain ⟨h1, h2⟩ := List.pairwise_cons.1 hl
    obtain ⟨k1, k2⟩ := List.pairwise_cons.1 hm
    have e : x = y := by
      rcases List.mem_cons.1 ((h x).1 (by simp)) with e | e
      · exact e
      · rcases List.mem_cons.1 ((h y).2 (by simp)) with e' | e'
        · exact e'.symm
        · have a := k1 x e; have b := txt_asymm (h1 y e'); rw [a] at b; cases b
    subst e
    rw [rising_ext h2 k2 fun z => ?_]
    constructor
    · intro hz
      rcases List.mem_cons.1 ((h z).1 (by simp [hz])) with e | e
      · subst e; have := h1 z hz; rw [txt_irrefl] at this; cases this
      · exact e
    · intro hz
      rcases List.mem_cons.1 ((h z).2 (by simp [hz])) with e | e
      · subst e; have := k1 z hz; rw [txt_irrefl] at this; cases this
      · exact e
/-- The library's sort of texts of which none stands twice. -/
def leB (x y : List UInt8) : Bool := decide (x ≤ y)
theorem leB_eq (x y : List UInt8) : leB x y = !Op.bytesLess y x := by
  unfold leB
  rw [bytesLess_eq]
  rw [Bool.eq_iff_iff]
  simp [List.not_lt]
theorem sort_rising {l : List (List UInt8)} (hn : l.Nodup) : (l.mergeSort leB).Pairwise (fun a b => Op.bytesLess a b = true) := by
  have h1 : (l.mergeSort leB).Pairwise (fun a b => leB a b = true) := List.pairwise_mergeSort (fun a b c h k => by
      rw [leB_eq] at h k ⊢
      simp only [Bool.not_eq_true'] at h k ⊢
      cases hc : Op.bytesLess c a
      · rfl
      · cases hb : Op.bytesLess b c
        · cases hb2 : Op.bytesLess c b
          · have := less_tri hb hb2; subst this; rw [h] at hc; cases hc
          · rw [k] at hb2; cases hb2
        · have := less_trans hb hc; rw [h] at this; cases this) (fun a b => by
      rw [leB_eq, leB_eq]
      cases h : Op.bytesLess b a
      · rfl
      · rw [less_asymm h]; rfl) l
  have h2 : (l.mergeSort leB).Nodup := (List.mergeSort_perm l leB).nodup_iff.2 hn
  rw [List.nodup_iff_pairwise_ne] at h2
  refine List.Pairwise.imp ?_ (List.Pairwise.and h1 h2)
  intro a b ⟨h, hne⟩
  rw [leB_eq] at h
  simp only [Bool.not_eq_true'] at h
  cases k : Op.bytesLess a b
  · exact absurd (less_tri k h) hne
  · rfl
end Go.Proofs.Ytlgodbjbllpipaa
