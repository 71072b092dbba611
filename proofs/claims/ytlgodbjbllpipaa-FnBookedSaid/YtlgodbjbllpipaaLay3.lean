/- Layers as plain data: pieces issued, given back, and costs that come late. No condition. -/
import Derived.Test.YtlgodbjbllpipaaLay2
namespace Go.Proofs.Ytlgodbjbllpipaa
open Go.RowKit

theorem lcost_mono {x : Lay} {a b : Int} (hq : 1 ≤ x.q) (hv : 0 ≤ x.v) (hab : a ≤ b) : lcost x a ≤ lcost x b :=
  Int.ediv_le_ediv (by omega) (Int.mul_le_mul_of_nonneg_left hab hv)
theorem areLayers_drop {l : List Lay} (h : areLayers l = true) (k : Nat) : ∀ x ∈ l.drop k, 1 ≤ x.q ∧ x.q ≤ 100000 ∧ 0 ≤ x.v ∧ x.v ≤ 1000000000 ∧ 0 ≤ x.u ∧ x.u ≤ x.q :=
  fun _ hx => areLayers_mem h (List.mem_of_mem_drop hx)
theorem areLayers_take {l : List Lay} (h : areLayers l = true) (k : Nat) : ∀ x ∈ l.take k, 1 ≤ x.q ∧ x.q ≤ 100000 ∧ 0 ≤ x.v ∧ x.v ≤ 1000000000 ∧ 0 ≤ x.u ∧ x.u ≤ x.q :=
  fun _ hx => areLayers_mem h (List.mem_of_mem_take hx)
theorem drop_at {l : List Lay} {k : Nat} {x : Lay} (h : l[k]? = some x) : l.drop k = x :: l.drop (k + 1) := by
  obtain ⟨hk, rfl⟩ := List.getElem?_eq_some_iff.1 h
  exact List.drop_eq_getElem_cons hk

/-- One cell of a layer's three, stored anew. -/
theorem layCells_setU (l : List Lay) (k : Nat) (q v u u' : Int) (h : l[k]? = some ⟨q, v, u⟩) : (layCells l).set (k * 3 + 2) (.int .i64 u') = layCells (l.set k ⟨q, v, u'⟩) := by
  induction l generalizing k with
  | nil => simp at h
  | cons y l ih =>
    cases k with
    | zero => simp at h; subst h; simp [layCells_cons]
    | succ k =>
      rw [layCells_cons, show (k + 1) * 3 + 2 = (k * 3 + 2) + 1 + 1 + 1 by omega]
      simp only [List.set_cons_succ]
      rw [ih k (by simpa using h), layCells_cons]
theorem layCells_setV (l : List Lay) (k : Nat) (q v u v' : Int) (h : l[k]? = some ⟨q, v, u⟩) : (layCells l).set (k * 3 + 1) (.int .i64 v') = layCells (l.set k ⟨q, v', u⟩) := by
  induction l generalizing k with
  | nil => simp at h
  | cons y l ih =>
    cases k with
    | zero => simp at h; subst h; simp [layCells_cons]
    | succ k =>
      rw [layCells_cons, show (k + 1) * 3 + 1 = (k * 3 + 1) + 1 + 1 + 1 by omega]
      simp only [List.set_cons_succ]
      rw [ih k (by simpa using h), layCells_cons]

theorem min_is (x y : Int) (hx : 0 ≤ x) (hy : 0 ≤ y) : ∃ m, (if y < x then y else x) = m ∧ 0 ≤ m ∧ m ≤ x ∧ m ≤ y ∧ m = min x y := by
  refine ⟨_, rfl, ?_⟩
  split <;> omega

/-! ### issuing -/
structure IS where
  out : List Lay
  cost : Int
  left : Int
def issueF (s : IS) (x : Lay) : IS :=
  ⟨s.out ++ [⟨x.q, x.v, x.u + min s.left (x.q - x.u)⟩], s.cost + (lcost x (x.u + min s.left (x.q - x.u)) - lcost x x.u), s.left - min s.left (x.q - x.u)⟩
def issueTo (l : List Lay) (q : Int) (k : Nat) : IS := (l.take k).foldl issueF ⟨[], 0, q⟩
theorem issueTo_zero (l : List Lay) (q : Int) : issueTo l q 0 = ⟨[], 0, q⟩ := by simp [issueTo]
theorem issueTo_succ {l : List Lay} {q : Int} {k : Nat} {x : Lay} (h : l[k]? = some x) : issueTo l q (k + 1) = issueF (issueTo l q k) x := by
  simp [issueTo, List.take_add_one, h, List.foldl_append]
theorem issueTo_len {l : List Lay} {q : Int} {k : Nat} (hk : k ≤ l.length) : (issueTo l q k).out.length = k := by
  induction k with
  | zero => simp [issueTo_zero]
  | succ k ih =>
    have hx : l[k]? = some l[k] := List.getElem?_eq_getElem (by omega)
    rw [issueTo_succ hx]
    simp [issueF, ih (by omega)]
theorem issueTo_bd {l : List Lay} (h : areLayers l = true) {q : Int} (hq : 0 ≤ q) {k : Nat} (hk : k ≤ l.length) : 0 ≤ (issueTo l q k).left ∧ (issueTo l q k).left ≤ q ∧ 0 ≤ (issueTo l q k).cost ∧ (issueTo l q k).cost ≤ k * 1000000000 := by
  induction k with
  | zero => simp [issueTo_zero]; omega
  | succ k ih =>
    have hx : l[k]? = some l[k] := List.getElem?_eq_getElem (by omega)
    obtain ⟨i1, i2, i3, i4⟩ := ih (by omega)
    have a := areLayers_at h hx
    rw [issueTo_succ hx]
    simp only [issueF]
    have m1 := lcost_mono (x := l[k]) (a := l[k].u) (b := l[k].u + min (issueTo l q k).left (l[k].q - l[k].u)) (by omega) (by omega) (by omega)
    have m2 := lcost_bd (x := l[k]) (n := l[k].u) (by omega) (by omega) (by omega) (by omega)
    have m3 := lcost_bd (x := l[k]) (n := l[k].u + min (issueTo l q k).left (l[k].q - l[k].u)) (by omega) (by omega) (by omega) (by omega)
    omega
theorem issueDone_fold : ∀ (m : List Lay) (s : IS), s.left = 0 → (∀ x ∈ m, x.u ≤ x.q) → (m.foldl issueF s).out = s.out ++ m ∧ (m.foldl issueF s).cost = s.cost ∧ (m.foldl issueF s).left = 0
  | [], s, h, _ => by simp [h]
  | x :: m, s, h, hm => by
    have hx := hm x (by simp)
    have e0 : min s.left (x.q - x.u) = 0 := by omega
    have e1 : issueF s x = ⟨s.out ++ [x], s.cost, 0⟩ := by
      unfold issueF
      rw [e0]
      simp only [Int.add_zero, Int.sub_self, Int.sub_zero]
      rw [h]
    rw [List.foldl_cons, e1]
    obtain ⟨r1, r2, r3⟩ := issueDone_fold m ⟨s.out ++ [x], s.cost, 0⟩ rfl (fun y hy => hm y (by simp [hy]))
    exact ⟨by rw [r1]; simp, r2, r3⟩
theorem issueTo_done {l : List Lay} (h : areLayers l = true) {q : Int} {k : Nat} (hl : (issueTo l q k).left = 0) : (issueTo l q l.length).out = (issueTo l q k).out ++ l.drop k ∧ (issueTo l q l.length).cost = (issueTo l q k).cost := by
  have e : issueTo l q l.length = (l.drop k).foldl issueF (issueTo l q k) := by
    unfold issueTo
    rw [List.take_length, ← List.foldl_append, List.take_append_drop]
  obtain ⟨r1, r2, _⟩ := issueDone_fold (l.drop k) (issueTo l q k) hl (fun x hx => (areLayers_drop h k x hx).2.2.2.2.2)
  rw [e]; exact ⟨r1, r2⟩
/-- The row in the middle of issuing: what is done, then what is still to come. -/
def issueRow (l : List Lay) (q : Int) (k : Nat) : List Lay := (issueTo l q k).out ++ l.drop k
theorem issueRow_zero (l : List Lay) (q : Int) : issueRow l q 0 = l := by simp [issueRow, issueTo_zero]
theorem issueRow_at {l : List Lay} {q : Int} {k : Nat} {x : Lay} (h : l[k]? = some x) : (issueRow l q k)[k]? = some x := by
  have hk := (List.getElem?_eq_some_iff.1 h).1
  have hl := issueTo_len (q := q) (Nat.le_of_lt hk)
  rw [issueRow, List.getElem?_append_right (by omega), hl, Nat.sub_self, drop_at h]; rfl
theorem issueRow_succ {l : List Lay} {q : Int} {k : Nat} {a b c : Int} (h : l[k]? = some ⟨a, b, c⟩) : (issueRow l q k).set k ⟨a, b, c + min (issueTo l q k).left (a - c)⟩ = issueRow l q (k + 1) := by
  have hk := (List.getElem?_eq_some_iff.1 h).1
  have hl := issueTo_len (q := q) (Nat.le_of_lt hk)
  rw [issueRow, List.set_append_right _ _ (by omega), hl, Nat.sub_self, drop_at h, List.set_cons_zero, issueRow, issueTo_succ h]
  simp [issueF]
theorem issueRow_len (l : List Lay) (q : Int) (k : Nat) (hk : k ≤ l.length) : (issueRow l q k).length = l.length := by
  rw [issueRow, List.length_append, issueTo_len hk, List.length_drop]; omega
theorem issueRow_end (l : List Lay) (q : Int) : issueRow l q l.length = (issueTo l q l.length).out := by simp [issueRow]
def issueOk (l : List Lay) (q : Int) : Bool := areLayers l && inB q 1 (leftOf l)
def issueOut (l : List Lay) (q : Int) : List Lay := if issueOk l q then (issueTo l q l.length).out else []
def issueCost (l : List Lay) (q : Int) : Int := if issueOk l q then (issueTo l q l.length).cost else 0
theorem issueOut_len (l : List Lay) (q : Int) : (issueOut l q).length ≤ 24 := by
  unfold issueOut; split
  · next h => rw [issueTo_len (Nat.le_refl _)]; simp only [issueOk, Bool.and_eq_true] at h; exact areLayers_len h.1
  · simp

/-! ### giving back -/
def retF (x : Lay) (s : IS) : IS :=
  ⟨⟨x.q, x.v, x.u - min s.left x.u⟩ :: s.out, s.cost + (lcost x x.u - lcost x (x.u - min s.left x.u)), s.left - min s.left x.u⟩
def retTo (l : List Lay) (q : Int) (k : Nat) : IS := (l.drop k).foldr retF ⟨[], 0, q⟩
theorem retTo_end (l : List Lay) (q : Int) : retTo l q l.length = ⟨[], 0, q⟩ := by simp [retTo]
theorem retTo_at {l : List Lay} {q : Int} {k : Nat} {x : Lay} (h : l[k]? = some x) : retTo l q k = retF x (retTo l q (k + 1)) := by
  unfold retTo; rw [drop_at h]; rfl
theorem retTo_len (l : List Lay) (q : Int) (k : Nat) : (retTo l q k).out.length = l.length - k := by
  have : ∀ (m : List Lay), (m.foldr retF ⟨[], 0, q⟩).out.length = m.length := by
    intro m; induction m with
    | nil => rfl
    | cons x m ih => simp [retF, ih]
  rw [retTo, this, List.length_drop]
theorem retTo_bd {l : List Lay} (h : areLayers l = true) {q : Int} (hq : 0 ≤ q) (k : Nat) : 0 ≤ (retTo l q k).left ∧ (retTo l q k).left ≤ q ∧ 0 ≤ (retTo l q k).cost ∧ (retTo l q k).cost ≤ ((l.drop k).length : Int) * 1000000000 := by
  have key : ∀ (m : List Lay), (∀ x ∈ m, 1 ≤ x.q ∧ x.q ≤ 100000 ∧ 0 ≤ x.v ∧ x.v ≤ 1000000000 ∧ 0 ≤ x.u ∧ x.u ≤ x.q) →
      0 ≤ (m.foldr retF ⟨[], 0, q⟩).left ∧ (m.foldr retF ⟨[], 0, q⟩).left ≤ q ∧ 0 ≤ (m.foldr retF ⟨[], 0, q⟩).cost ∧ (m.foldr retF ⟨[], 0, q⟩).cost ≤ (m.length : Int) * 1000000000 := by
    intro m
    induction m with
    | nil => intro _; simp; omega
    | cons x m ih =>
      intro hm
      obtain ⟨i1, i2, i3, i4⟩ := ih (fun y hy => hm y (by simp [hy]))
      have a := hm x (by simp)
      simp only [List.foldr_cons, retF, List.length_cons]
      generalize m.foldr retF ⟨[], 0, q⟩ = s at *
      have m1 := lcost_mono (x := x) (a := x.u - min s.left x.u) (b := x.u) (by omega) (by omega) (by omega)
      have m2 := lcost_bd (x := x) (n := x.u) (by omega) (by omega) (by omega) (by omega)
      have m3 := lcost_bd (x := x) (n := x.u - min s.left x.u) (by omega) (by omega) (by omega) (by omega)
      omega
  exact key _ (areLayers_drop h k)
theorem retDone_fold : ∀ (m : List Lay) (s : IS), s.left = 0 → (∀ x ∈ m, 0 ≤ x.u) → (m.foldr retF s).out = m ++ s.out ∧ (m.foldr retF s).cost = s.cost ∧ (m.foldr retF s).left = 0
  | [], s, h, _ => by simp [h]
  | x :: m, s, h, hm => by
    obtain ⟨r1, r2, r3⟩ := retDone_fold m s h (fun y hy => hm y (by simp [hy]))
    have hx := hm x (by simp)
    simp only [List.foldr_cons, retF, r1, r2, r3]
    have e0 : min 0 x.u = 0 := by omega
    rw [e0]
    simp
theorem retTo_done {l : List Lay} (h : areLayers l = true) {q : Int} {k : Nat} (hl : (retTo l q k).left = 0) : (retTo l q 0).out = l.take k ++ (retTo l q k).out ∧ (retTo l q 0).cost = (retTo l q k).cost := by
  have e : retTo l q 0 = (l.take k).foldr retF (retTo l q k) := by
    unfold retTo
    rw [← List.foldr_append, List.take_append_drop, List.drop_zero]
  obtain ⟨r1, r2, _⟩ := retDone_fold (l.take k) (retTo l q k) hl (fun x hx => (areLayers_take h k x hx).2.2.2.2.1)
  rw [e]; exact ⟨r1, r2⟩
def retRow (l : List Lay) (q : Int) (k : Nat) : List Lay := l.take k ++ (retTo l q k).out
theorem retRow_end (l : List Lay) (q : Int) : retRow l q l.length = l := by simp [retRow, retTo_end]
theorem retRow_zero (l : List Lay) (q : Int) : retRow l q 0 = (retTo l q 0).out := by simp [retRow]
theorem retRow_at {l : List Lay} {q : Int} {k : Nat} {x : Lay} (h : l[k]? = some x) : (retRow l q (k + 1))[k]? = some x := by
  have hk := (List.getElem?_eq_some_iff.1 h).1
  rw [retRow, List.getElem?_append_left (by simp; omega), List.getElem?_take, if_pos (by omega), h]
theorem retRow_step {l : List Lay} {q : Int} {k : Nat} {a b c : Int} (h : l[k]? = some ⟨a, b, c⟩) : (retRow l q (k + 1)).set k ⟨a, b, c - min (retTo l q (k + 1)).left c⟩ = retRow l q k := by
  have hk := (List.getElem?_eq_some_iff.1 h).1
  rw [retRow, List.take_add_one, h, retRow, retTo_at h]
  have hl : (l.take k).length = k := by simp; omega
  simp only [Option.toList_some, List.append_assoc]
  rw [List.set_append_right _ _ (by omega), hl, Nat.sub_self]
  rfl
theorem retRow_len (l : List Lay) (q : Int) (k : Nat) (hk : k ≤ l.length) : (retRow l q k).length = l.length := by
  rw [retRow, List.length_append, retTo_len, List.length_take]; omega
def usedSum (l : List Lay) : Int := sumL (fun x => x.u) l
def retOk (l : List Lay) (q : Int) : Bool := areLayers l && inB q 1 (usedSum l)
def retOut (l : List Lay) (q : Int) : List Lay := if retOk l q then (retTo l q 0).out else []
def retCost (l : List Lay) (q : Int) : Int := if retOk l q then (retTo l q 0).cost else 0
theorem retOut_len (l : List Lay) (q : Int) : (retOut l q).length ≤ 24 := by
  unfold retOut; split
  · next h => rw [retTo_len]; simp only [retOk, Bool.and_eq_true] at h; have := areLayers_len h.1; omega
  · simp

/-! ### a cost that comes late -/
def bump (x : Lay) (a : Int) : Lay := ⟨x.q, x.v + a, x.u⟩
def lateL (l : List Lay) (k : Nat) (a : Int) : List Lay := match l[k]? with | some x => l.set k (bump x a) | none => l
theorem lateL_at {l : List Lay} {k : Nat} {x : Lay} (h : l[k]? = some x) (a : Int) : lateL l k a = l.set k (bump x a) := by simp [lateL, h]
theorem lateL_len (l : List Lay) (k : Nat) (a : Int) : (lateL l k a).length = l.length := by unfold lateL; split <;> simp
def lateIn (l : List Lay) (k a : Int) : Bool := areLayers l && (inB k 0 ((l.length : Int) - 1) && inB a (-1000000000) 1000000000)
def lateOk (l : List Lay) (k a : Int) : Bool := lateIn l k a && areLayers (lateL l k.toNat a)
def lateOut (l : List Lay) (k a : Int) : List Lay := if lateOk l k a then lateL l k.toNat a else []
def lateDiff (l : List Lay) (k : Nat) (a : Int) : Int := match l[k]? with | some x => lcost (bump x a) x.u - lcost x x.u | none => 0
theorem lateDiff_at {l : List Lay} {k : Nat} {x : Lay} (h : l[k]? = some x) (a : Int) : lateDiff l k a = lcost (bump x a) x.u - lcost x x.u := by simp [lateDiff, h]
def lateGone (l : List Lay) (k a : Int) : Int := if lateOk l k a then lateDiff l k.toNat a else 0
theorem lateOut_len (l : List Lay) (k a : Int) : (lateOut l k a).length ≤ 24 := by
  unfold lateOut; split
  · next h => simp only [lateOk, Bool.and_eq_true] at h; exact areLayers_len h.2
  · simp
end Go.Proofs.Ytlgodbjbllpipaa
