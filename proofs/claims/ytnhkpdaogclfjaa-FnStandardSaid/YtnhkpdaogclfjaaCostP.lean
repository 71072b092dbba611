/- Costs rolled up along lines: the plain words. No condition. -/
import Derived.Test.YtnhkpdaogclfjaaLevP
namespace Go.Proofs.Ytnhkpdaogclfjaa

/-- A product and a sum within the limit; -1 stands for too much. -/
def cTimes (a b : Int) : Int := if a < 0 ∨ b < 0 then -1 else if 1000000000 < a * b then -1 else a * b
def cPlus (a b : Int) : Int := if a < 0 ∨ b < 0 then -1 else if 1000000000 < a + b then -1 else a + b
def cOk (x : Int) : Prop := -1 ≤ x ∧ x ≤ 1000000000
theorem cTimes_ok (a b : Int) : cOk (cTimes a b) := by
  unfold cOk cTimes
  by_cases h : a < 0 ∨ b < 0
  · simp [h]
  · rw [if_neg h]
    split
    · omega
    · have : 0 ≤ a * b := Int.mul_nonneg (by omega) (by omega)
      omega
theorem cPlus_ok (a b : Int) : cOk (cPlus a b) := by unfold cOk cPlus; split <;> (try split) <;> omega
theorem cPlus_neg {a b : Int} (h : a < 0) : cPlus a b = -1 := by unfold cPlus; rw [if_pos (.inl h)]
/-- How the program adds a part's cost. -/
def cAdd (s n q : Int) : Int := if n < 0 ∨ 1000000000 < s + q * n then -1 else s + q * n
theorem cAdd_eq {s n q : Int} (hs : 0 ≤ s) (hq : 0 ≤ q) (hs2 : s ≤ 1000000000) : cPlus s (cTimes n q) = cAdd s n q := by
  unfold cAdd cPlus cTimes
  by_cases hn : n < 0
  · simp [hn]
  · have h0 : 0 ≤ q * n := Int.mul_nonneg hq (by omega)
    rw [Int.mul_comm n q]
    have h1 : ¬ (n < 0 ∨ q < 0) := by omega
    rw [if_neg h1]
    by_cases h2 : 1000000000 < q * n
    · rw [if_pos h2, if_pos (.inr (by omega)), if_pos (.inr (by omega))]
    · rw [if_neg h2, if_neg (by omega)]
      by_cases h3 : 1000000000 < s + q * n
      · rw [if_pos h3, if_pos (.inr h3)]
      · rw [if_neg h3, if_neg (by omega)]

/-- A line in force: the places of its items, and its quantity. -/
structure Al where
  p : Nat
  q : Nat
  k : Int
/-- The cost of an item; d is how deep it is looked. -/
def costD (al : List Al) (pr : Nat → Int) : Nat → Nat → Int
  | 0, i => pr i
  | d + 1, i => al.foldl (fun s e => if e.p = i then cPlus s (cTimes (costD al pr d e.q) e.k) else s) (pr i)
theorem fold_same {α β : Type} {f g : β → α → β} : ∀ (l : List α) (s : β), (∀ s, ∀ x ∈ l, f s x = g s x) → l.foldl f s = l.foldl g s
  | [], _, _ => rfl
  | x :: l, s, h => by
    simp only [List.foldl_cons]
    rw [h s x (by simp)]
    exact fold_same l _ fun s y hy => h s y (by simp [hy])
/-- Levels that rise along all lines, below n. -/
def Rise (al : List Al) (L : Nat → Int) (n : Nat) : Prop := ∀ e ∈ al, e.p < n ∧ e.q < n ∧ L e.p < L e.q
theorem costD_deep {al : List Al} {pr : Nat → Int} {L : Nat → Int} {n : Nat} (h : Rise al L n) (hL : ∀ i, i < n → L i < n) : ∀ (d i : Nat), i < n → (n : Int) ≤ L i + d → costD al pr (d + 1) i = costD al pr d i
  | 0, i, hi, hd => by have := hL i hi; omega
  | d + 1, i, hi, hd => by
    refine fold_same _ _ fun s e he => ?_
    by_cases hp : e.p = i
    · rw [if_pos hp, if_pos hp]
      have hr := h e he
      rw [hp] at hr
      have hdd : (n : Int) ≤ L e.q + d := by have := hr.2.2; omega
      rw [costD_deep h hL d e.q hr.2.1 hdd]
    · rw [if_neg hp, if_neg hp]
theorem costD_all {al : List Al} {pr : Nat → Int} {L : Nat → Int} {n : Nat} (h : Rise al L n) (hL : ∀ i, i < n → 0 ≤ L i ∧ L i < n) (i : Nat) (hi : i < n) :
    costD al pr n i = al.foldl (fun s e => if e.p = i then cPlus s (cTimes (costD al pr n e.q) e.k) else s) (pr i) :=
  (costD_deep h (fun i hi => (hL i hi).2) n i hi (by have := (hL i hi).1; omega)).symm.trans rfl
theorem costD_ok (al : List Al) (pr : Nat → Int) (hpr : ∀ i, cOk (pr i)) : ∀ d i, cOk (costD al pr d i)
  | 0, i => hpr i
  | d + 1, i => by
    have : ∀ (l : List Al) (s : Int), cOk s → cOk (l.foldl (fun s e => if e.p = i then cPlus s (cTimes (costD al pr d e.q) e.k) else s) s) := by
      intro l
      induction l with
      | nil => exact fun s h => h
      | cons x l ih =>
        intro s h
        refine ih _ ?_
        show cOk (if x.p = i then cPlus s (cTimes (costD al pr d x.q) x.k) else s)
        split
        · exact cPlus_ok _ _
        · exact h
    exact this al _ (hpr i)

/-! ### the order by levels -/
def lvOrder (lv : List Int) : List Nat := (List.range lv.length).flatMap fun v : Nat => (List.range lv.length).filter fun i => decide (lvAt lv i = (v : Int))
theorem order_mem {lv : List Int} {i : Nat} : i ∈ lvOrder lv ↔ i < lv.length ∧ 0 ≤ lvAt lv i ∧ lvAt lv i < lv.length := by
  unfold lvOrder
  rw [List.mem_flatMap]
  constructor
  · rintro ⟨v, hv, hi⟩
    rw [List.mem_filter] at hi
    have h1 := List.mem_range.1 hv
    have h2 := List.mem_range.1 hi.1
    have h3 : lvAt lv i = v := by simpa using hi.2
    omega
  · rintro ⟨h1, h2, h3⟩
    refine ⟨(lvAt lv i).toNat, List.mem_range.2 (by omega), List.mem_filter.2 ⟨List.mem_range.2 h1, ?_⟩⟩
    simp only [decide_eq_true_eq]
    omega
theorem order_up (lv : List Int) : (lvOrder lv).Pairwise fun a b => lvAt lv a ≤ lvAt lv b := by
  unfold lvOrder
  generalize hf : (fun v : Nat => (List.range lv.length).filter fun i => decide (lvAt lv i = (v : Int))) = f
  have hfv : ∀ v, ∀ a ∈ f v, lvAt lv a = v := fun v a ha => by
    rw [← hf] at ha
    simpa using (List.mem_filter.1 ha).2
  have hr : (List.range lv.length).Pairwise (· < ·) := List.pairwise_lt_range
  generalize List.range lv.length = vs at hr
  induction vs with
  | nil => exact List.Pairwise.nil
  | cons v vs ih =>
    rw [List.flatMap_cons, List.pairwise_append]
    rw [List.pairwise_cons] at hr
    refine ⟨?_, ih hr.2, fun a ha b hb => ?_⟩
    · exact List.pairwise_of_forall_mem_list fun a ha b hb => by rw [hfv v a ha, hfv v b hb]; exact Int.le_refl _
    · obtain ⟨u, hu, hb⟩ := List.mem_flatMap.1 hb
      have := hr.1 u hu
      rw [hfv v a ha, hfv u b hb]; omega
/-- What stands behind a place of the order is every item of a higher level. -/
theorem order_after {lv : List Int} {k : Nat} {i q : Nat} (hk : (lvOrder lv)[k]? = some i) (hq : q ∈ lvOrder lv) (h : lvAt lv i < lvAt lv q) : q ∈ (lvOrder lv).drop (k + 1) := by
  obtain ⟨j, hj, rfl⟩ := List.getElem_of_mem hq
  obtain ⟨hk1, rfl⟩ := List.getElem?_eq_some_iff.1 hk
  have hp := List.pairwise_iff_getElem.1 (order_up lv)
  have hjk : k < j := by
    rcases Nat.lt_trichotomy j k with h1 | h1 | h1
    · have := hp j k hj hk1 h1; omega
    · subst h1; omega
    · exact h1
  refine List.mem_iff_getElem.2 ⟨j - (k + 1), by simp; omega, ?_⟩
  rw [List.getElem_drop]
  congr 1; omega
end Go.Proofs.Ytnhkpdaogclfjaa
