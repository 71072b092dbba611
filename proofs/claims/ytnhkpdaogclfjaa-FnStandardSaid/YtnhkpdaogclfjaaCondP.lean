/- Conditions: the plain words. No condition. -/
import Derived.Test.YtnhkpdaogclfjaaSCondNode
import Derived.Test.YtnhkpdaogclfjaaSPick
import Derived.Test.YtnhkpdaogclfjaaText
namespace Go.Proofs.Ytnhkpdaogclfjaa

/-- How many operands a kind of node takes; -1 for another kind. -/
def cnNeed (k : Int) : Int := if k = 0 ∨ k = 1 then 0 else if k = 2 then 1 else if k = 3 ∨ k = 4 then 2 else -1
/-- The texts of a node suit its kind. -/
def cnText (x : Cn) : Bool := if x.kind = 1 then isCode x.opt && isCode x.val else decide (x.opt.size = 0) && decide (x.val.size = 0)
/-- Whether nodes can follow h operands and leave one. -/
def condC : Int → List Cn → Bool
  | h, [] => decide (h = 1)
  | h, x :: l => decide (0 ≤ cnNeed x.kind) && (decide (cnNeed x.kind ≤ h) && (cnText x && condC (h + (1 - cnNeed x.kind)) l))
def isCond (l : List Cn) : Bool := decide (l.length ≤ 30) && condC 0 l
def pickHit (x : Cn) (p : Pk) : Bool := decide (p.opt = x.opt) && decide (p.val = x.val)
def picked (ch : List Pk) (x : Cn) : Bool := ch.any (pickHit x)
/-- One node on a stack, whose top is its end. -/
def evStep (ch : List Pk) (s : List Bool) (x : Cn) : List Bool :=
  if x.kind = 0 then s ++ [true] else if x.kind = 1 then s ++ [picked ch x]
  else if x.kind = 2 then s.take (s.length - 1) ++ [!(s.getD (s.length - 1) false)]
  else if x.kind = 3 then s.take (s.length - 2) ++ [s.getD (s.length - 2) false && s.getD (s.length - 1) false]
  else s.take (s.length - 2) ++ [s.getD (s.length - 2) false || s.getD (s.length - 1) false]
def evalS (ch : List Pk) (s : List Bool) (l : List Cn) : List Bool := l.foldl (evStep ch) s
def evalC (ch : List Pk) (l : List Cn) : Bool := (evalS ch [] l).getD 0 false
def holds (l : List Cn) (ch : List Pk) : Bool := isCond l && evalC ch l

theorem condC_cons {h : Int} {x : Cn} {l : List Cn} (hc : condC h (x :: l) = true) : 0 ≤ cnNeed x.kind ∧ cnNeed x.kind ≤ h ∧ cnText x = true ∧ condC (h + (1 - cnNeed x.kind)) l = true := by
  simp only [condC, Bool.and_eq_true, decide_eq_true_eq] at hc
  exact ⟨hc.1, hc.2.1, hc.2.2.1, hc.2.2.2⟩
theorem cnNeed_kinds (k : Int) : (k = 0 ∧ cnNeed k = 0) ∨ (k = 1 ∧ cnNeed k = 0) ∨ (k = 2 ∧ cnNeed k = 1) ∨ (k = 3 ∧ cnNeed k = 2) ∨ (k = 4 ∧ cnNeed k = 2) ∨ (¬ k = 0 ∧ ¬ k = 1 ∧ ¬ k = 2 ∧ ¬ k = 3 ∧ ¬ k = 4 ∧ cnNeed k = -1) := by
  unfold cnNeed
  split
  · omega
  · split
    · omega
    · split <;> omega
theorem drop_cons {α : Type} {l : List α} {k : Nat} {x : α} (h : l[k]? = some x) : l.drop k = x :: l.drop (k + 1) := by
  obtain ⟨hk, rfl⟩ := List.getElem?_eq_some_iff.1 h
  exact List.drop_eq_getElem_cons hk
theorem condC_at {l : List Cn} {k : Nat} {x : Cn} {h : Int} (hx : l[k]? = some x) : condC h (l.drop k) = (decide (0 ≤ cnNeed x.kind) && (decide (cnNeed x.kind ≤ h) && (cnText x && condC (h + (1 - cnNeed x.kind)) (l.drop (k + 1))))) := by
  rw [drop_cons hx]; rfl
/-- The stack has as many members as there are operands. -/
theorem evStep_len {ch : List Pk} {s : List Bool} {x : Cn} (h0 : 0 ≤ cnNeed x.kind) (h1 : cnNeed x.kind ≤ s.length) : ((evStep ch s x).length : Int) = s.length + (1 - cnNeed x.kind) := by
  rcases cnNeed_kinds x.kind with ⟨hk, hn⟩ | ⟨hk, hn⟩ | ⟨hk, hn⟩ | ⟨hk, hn⟩ | ⟨hk, hn⟩ | ⟨_, _, _, _, _, hn⟩
  · rw [hn] at h1 ⊢; simp [evStep, hk]
  · rw [hn] at h1 ⊢; simp [evStep, hk]
  · rw [hn] at h1 ⊢; simp [evStep, hk]; omega
  · rw [hn] at h1 ⊢; simp [evStep, hk]; omega
  · rw [hn] at h1 ⊢; simp [evStep, hk]; omega
  · omega
theorem evalS_at {ch : List Pk} {l : List Cn} {k : Nat} {x : Cn} (s : List Bool) (hx : l[k]? = some x) : evalS ch s (l.drop k) = evalS ch (evStep ch s x) (l.drop (k + 1)) := by
  rw [drop_cons hx]; rfl
end Go.Proofs.Ytnhkpdaogclfjaa
