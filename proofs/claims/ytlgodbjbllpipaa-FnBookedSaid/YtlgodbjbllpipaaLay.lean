/- Layers as plain data, and what the program computes on them, with no program in sight. No condition. -/
import Derived.Test.YtlgodbjbllpipaaBase
namespace Go.Proofs.Ytlgodbjbllpipaa
open Go.RowKit

structure Lay where
  q : Int
  v : Int
  u : Int
deriving DecidableEq

def layCells (l : List Lay) : List Value := l.flatMap fun x => [.int .i64 x.q, .int .i64 x.v, .int .i64 x.u]
theorem layCells_nil : layCells [] = [] := rfl
theorem layCells_cons (x : Lay) (l : List Lay) : layCells (x :: l) = .int .i64 x.q :: .int .i64 x.v :: .int .i64 x.u :: layCells l := rfl
theorem layCells_append (l m : List Lay) : layCells (l ++ m) = layCells l ++ layCells m := by simp [layCells, List.flatMap_append]
theorem layCells_len (l : List Lay) : (layCells l).length = l.length * 3 := by
  induction l with
  | nil => rfl
  | cons x l ih => rw [layCells_cons]; simp only [List.length_cons, ih]; omega
theorem layCells_at (l : List Lay) (k : Nat) (x : Lay) (h : l[k]? = some x) : (layCells l)[k * 3]? = some (.int .i64 x.q) ∧ (layCells l)[k * 3 + 1]? = some (.int .i64 x.v) ∧ (layCells l)[k * 3 + 2]? = some (.int .i64 x.u) := by
  induction l generalizing k with
  | nil => simp at h
  | cons y l ih =>
    rw [layCells_cons]
    cases k with
    | zero => simp at h; subst h; simp
    | succ k =>
      have := ih k (by simpa using h)
      rw [show (k + 1) * 3 = k * 3 + 1 + 1 + 1 by omega]
      simpa using this
theorem layCells_one (l : List Lay) : ∀ u ∈ layCells l, u.oneCell' = true := by
  intro u hu
  simp only [layCells, List.mem_flatMap] at hu
  obtain ⟨x, _, hx⟩ := hu
  simp at hx
  rcases hx with rfl | rfl | rfl <;> rfl

section
variable {w : World} {n c base : Nat} {e : TypeId} {A : Option Addr} {l : List Lay}
theorem RS.lay (h : RS w 3 A n (layCells l)) : l.length = n := by
  have := h.len; rw [layCells_len] at this; omega
theorem own_lay (h : w.ownsRow base e 3 (.slice A n c) n (layCells l)) : l.length = n := (RS.of_own h).lay
theorem RS.layAt {k : Nat} (h : RS w 3 A n (layCells l)) (hk : k < n) :
    ∃ g off, A = some ⟨g, off, none⟩ ∧ ∃ q v u, l[k]? = some ⟨q, v, u⟩ ∧ w.cell? ⟨g, off + k * 3, none⟩ = some (.int .i64 q) ∧ w.cell? ⟨g, off + k * 3 + 1, none⟩ = some (.int .i64 v) ∧ w.cell? ⟨g, off + k * 3 + 2, none⟩ = some (.int .i64 u) := by
  obtain ⟨g, off, e, hc⟩ := h.at_ (by omega)
  have hl := h.lay
  obtain ⟨x, hx⟩ : ∃ x, l[k]? = some x := ⟨_, List.getElem?_eq_getElem (by omega)⟩
  obtain ⟨h0, h1, h2⟩ := layCells_at l k x hx
  exact ⟨g, off, e, x.q, x.v, x.u, hx, hc _ _ h0, by rw [Nat.add_assoc]; exact hc _ _ h1, by rw [Nat.add_assoc]; exact hc _ _ h2⟩
end

/-! ### when layers are right -/
def layBad (l : List Lay) (k : Nat) : Bool :=
  match l[k]? with
  | none => false
  | some x => !inB x.q 1 100000 || (!inB x.v 0 1000000000 || (!inB x.u 0 x.q || (decide (0 < k) && (decide (0 < x.u) && (match l[k-1]? with | some p => decide (p.u < p.q) | none => false)))))
def areLayers (l : List Lay) : Bool := (List.range l.length).all (fun k => !layBad l k) && decide (l.length ≤ 24)
theorem layBad_eq {l : List Lay} {k : Nat} {q v u : Int} (hx : l[k]? = some ⟨q, v, u⟩) : layBad l k = (!inB q 1 100000 || (!inB v 0 1000000000 || (!inB u 0 q || (decide (0 < k) && (decide (0 < u) && (match l[k-1]? with | some p => decide (p.u < p.q) | none => false)))))) := by simp only [layBad, hx]
theorem layBad_prev {l : List Lay} {k : Nat} {q v u q' v' u' : Int} (hx : l[k]? = some ⟨q, v, u⟩) (hp : l[k-1]? = some ⟨q', v', u'⟩) (h1 : inB q 1 100000 = true) (h2 : inB v 0 1000000000 = true) (h3 : inB u 0 q = true) (hk : 0 < k) (hu : 0 < u) :
    layBad l k = decide (u' < q') := by simp [layBad_eq hx, hp, h1, h2, h3, hk, hu]
theorem layBad_first {l : List Lay} {k : Nat} {q v u : Int} (hx : l[k]? = some ⟨q, v, u⟩) (h1 : inB q 1 100000 = true) (h2 : inB v 0 1000000000 = true) (h3 : inB u 0 q = true) (h : ¬ (0 < k) ∨ decide (0 < u) = false) : layBad l k = false := by
  rw [layBad_eq hx, h1, h2, h3]
  rcases h with h | h
  · simp [h]
  · rw [h]; simp
theorem areLayers_bad {l : List Lay} {k : Nat} (hk : k < l.length) (h : layBad l k = true) : areLayers l = false := by
  have : (List.range l.length).all (fun k => !layBad l k) = false := by
    rw [List.all_eq_false]; exact ⟨k, List.mem_range.2 hk, by simp [h]⟩
  simp [areLayers, this]
theorem areLayers_good {l : List Lay} (h : ∀ j, j < l.length → layBad l j = false) : areLayers l = decide ((l.length : Int) ≤ 24) := by
  have : (List.range l.length).all (fun k => !layBad l k) = true := by
    rw [List.all_eq_true]; intro j hj; simp [h j (List.mem_range.1 hj)]
  simp [areLayers, this]; omega
theorem areLayers_len {l : List Lay} (h : areLayers l = true) : l.length ≤ 24 := by
  simp only [areLayers, Bool.and_eq_true, decide_eq_true_eq] at h; exact h.2
theorem areLayers_notBad {l : List Lay} (h : areLayers l = true) (k : Nat) : layBad l k = false := by
  simp only [areLayers, Bool.and_eq_true, List.all_eq_true, List.mem_range] at h
  by_cases hk : k < l.length
  · simpa using h.1 k hk
  · simp [layBad, List.getElem?_eq_none (Nat.le_of_not_lt hk)]
theorem areLayers_at {l : List Lay} (h : areLayers l = true) {k : Nat} {x : Lay} (hx : l[k]? = some x) : 1 ≤ x.q ∧ x.q ≤ 100000 ∧ 0 ≤ x.v ∧ x.v ≤ 1000000000 ∧ 0 ≤ x.u ∧ x.u ≤ x.q := by
  have hb := areLayers_notBad h k
  obtain ⟨q, v, u⟩ := x
  rw [layBad_eq hx] at hb
  simp only [Bool.or_eq_false_iff, Bool.not_eq_false'] at hb
  have h1 := inB_true.1 hb.1; have h2 := inB_true.1 hb.2.1; have h3 := inB_true.1 hb.2.2.1
  exact ⟨h1.1, h1.2, h2.1, h2.2, h3.1, h3.2⟩
theorem areLayers_mem {l : List Lay} (h : areLayers l = true) {x : Lay} (hx : x ∈ l) : 1 ≤ x.q ∧ x.q ≤ 100000 ∧ 0 ≤ x.v ∧ x.v ≤ 1000000000 ∧ 0 ≤ x.u ∧ x.u ≤ x.q := by
  obtain ⟨k, hk, rfl⟩ := List.getElem_of_mem hx
  exact areLayers_at h (List.getElem?_eq_getElem hk)
/-! ### sums over the first layers -/
def sumTo (f : Lay → Int) (l : List Lay) (k : Nat) : Int := ((l.take k).map f).sum
theorem sumTo_zero (f : Lay → Int) (l : List Lay) : sumTo f l 0 = 0 := by simp [sumTo]
theorem sumTo_succ (f : Lay → Int) {l : List Lay} {k : Nat} {x : Lay} (h : l[k]? = some x) : sumTo f l (k + 1) = sumTo f l k + f x := by
  simp [sumTo, List.take_add_one, h]
theorem sumTo_bd {f : Lay → Int} {l : List Lay} {M : Int} (h : ∀ x ∈ l, 0 ≤ f x ∧ f x ≤ M) (k : Nat) (hk : k ≤ l.length) : 0 ≤ sumTo f l k ∧ sumTo f l k ≤ k * M := by
  induction k with
  | zero => simp [sumTo_zero]
  | succ k ih =>
    have hx : l[k]? = some l[k] := List.getElem?_eq_getElem (by omega)
    rw [sumTo_succ f hx]
    have := ih (by omega); have h1 := h l[k] (List.getElem_mem _)
    rw [Int.natCast_add, Int.add_mul]
    omega
theorem sumTo_bd24 {f : Lay → Int} {l : List Lay} {M : Int} (h : ∀ x ∈ l, 0 ≤ f x ∧ f x ≤ M) (hM : 0 ≤ M) (hl : l.length ≤ 24) (k : Nat) (hk : k ≤ l.length) : 0 ≤ sumTo f l k ∧ sumTo f l k ≤ 24 * M := by
  obtain ⟨h1, h2⟩ := sumTo_bd h k hk
  refine ⟨h1, Int.le_trans h2 (Int.mul_le_mul_of_nonneg_right (by omega) hM)⟩
def sumL (f : Lay → Int) (l : List Lay) : Int := sumTo f l l.length

/-- What the first n pieces of a layer cost. -/
def lcost (x : Lay) (n : Int) : Int := x.v * n / x.q
theorem share_bd' {q v n : Int} (hq : 0 < q) (hv : 0 ≤ v) (hn : 0 ≤ n) (hnq : n ≤ q) : 0 ≤ v * n / q ∧ v * n / q ≤ v := by
  refine ⟨Int.ediv_nonneg (Int.mul_nonneg hv hn) (by omega), ?_⟩
  apply Int.ediv_le_of_le_mul hq
  exact Int.mul_le_mul_of_nonneg_left hnq hv
theorem mul_bd' {a b M N : Int} (ha : 0 ≤ a ∧ a ≤ M) (hb : 0 ≤ b ∧ b ≤ N) : 0 ≤ a * b ∧ a * b ≤ M * N :=
  ⟨Int.mul_nonneg ha.1 hb.1, Int.mul_le_mul ha.2 hb.2 hb.1 (by omega)⟩
theorem lcost_bd {x : Lay} {n : Int} (hq : 1 ≤ x.q) (hv : 0 ≤ x.v) (hn : 0 ≤ n) (hnq : n ≤ x.q) : 0 ≤ lcost x n ∧ lcost x n ≤ x.v := share_bd' (by omega) hv hn hnq

def leftOf (l : List Lay) : Int := if areLayers l then sumL (fun x => x.q - x.u) l else 0
def worthOf (l : List Lay) : Int := if areLayers l then sumL (fun x => x.v - lcost x x.u) l else 0
def goneCost (l : List Lay) : Int := if areLayers l then sumL (fun x => lcost x x.u) l else 0
theorem left_bd {l : List Lay} (h : areLayers l = true) : ∀ x ∈ l, 0 ≤ x.q - x.u ∧ x.q - x.u ≤ 100000 := fun x hx => by have := areLayers_mem h hx; omega
theorem worth_bd {l : List Lay} (h : areLayers l = true) : ∀ x ∈ l, 0 ≤ x.v - lcost x x.u ∧ x.v - lcost x x.u ≤ 1000000000 := fun x hx => by
  have := areLayers_mem h hx; have := lcost_bd (x := x) (n := x.u) (by omega) (by omega) (by omega) (by omega); omega
theorem gone_bd {l : List Lay} (h : areLayers l = true) : ∀ x ∈ l, 0 ≤ lcost x x.u ∧ lcost x x.u ≤ 1000000000 := fun x hx => by
  have := areLayers_mem h hx; have := lcost_bd (x := x) (n := x.u) (by omega) (by omega) (by omega) (by omega); omega
theorem used_bd {l : List Lay} (h : areLayers l = true) : ∀ x ∈ l, 0 ≤ x.u ∧ x.u ≤ 100000 := fun x hx => by have := areLayers_mem h hx; omega
end Go.Proofs.Ytlgodbjbllpipaa
