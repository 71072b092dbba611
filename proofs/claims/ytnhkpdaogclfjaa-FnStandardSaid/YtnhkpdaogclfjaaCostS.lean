/- Costs rolled up by codes: the plain words. No condition. -/
import Derived.Test.YtnhkpdaogclfjaaForce
import Derived.Test.YtnhkpdaogclfjaaPriceInW
import Derived.Maps.OwnSet
import Derived.Maps.OwnOps
namespace Go.Proofs.Ytnhkpdaogclfjaa
open Go.RowKit Go.Maps

def csStep (f : ByteArray → Int) (s : ByteArray) (t : Int) (x : Bl) : Int := if x.par = s then cPlus t (cTimes (f x.part) x.qty) else t
def costS (act : List Bl) (pr : ByteArray → Int) : Nat → ByteArray → Int
  | 0, s => pr s
  | d + 1, s => act.foldl (csStep (costS act pr d) s) (pr s)
/-- Levels that rise along all lines, below n. -/
def Rises (act : List Bl) (L : ByteArray → Int) (n : Nat) : Prop := ∀ x ∈ act, 0 ≤ L x.part ∧ L x.part < n ∧ L x.par < L x.part ∧ 1 ≤ x.qty ∧ x.qty ≤ 1000
theorem costS_deep {act : List Bl} {pr : ByteArray → Int} {L : ByteArray → Int} {n : Nat} (h : Rises act L n) : ∀ (d : Nat) (s : ByteArray), L s < n → (n : Int) ≤ L s + d → costS act pr (d + 1) s = costS act pr d s
  | 0, s, hi, hd => by omega
  | d + 1, s, hi, hd => by
    refine fold_same _ _ fun t x hx => ?_
    unfold csStep
    by_cases hp : x.par = s
    · rw [if_pos hp, if_pos hp]
      have hr := h x hx
      rw [hp] at hr
      rw [costS_deep h d x.part hr.2.1 (by omega)]
    · rw [if_neg hp, if_neg hp]
theorem costS_all {act : List Bl} {pr : ByteArray → Int} {L : ByteArray → Int} {n : Nat} (h : Rises act L n) (s : ByteArray) (h0 : 0 ≤ L s) (h1 : L s < n) :
    costS act pr n s = act.foldl (csStep (costS act pr n) s) (pr s) := (costS_deep h n s h1 (by omega)).symm.trans rfl
theorem csFold_ok {f : ByteArray → Int} {s : ByteArray} : ∀ (l : List Bl) (t : Int), cOk t → cOk (l.foldl (csStep f s) t)
  | [], _, h => h
  | x :: l, t, h => csFold_ok l _ (by
    show cOk (csStep f s t x)
    unfold csStep
    split
    · exact cPlus_ok _ _
    · exact h)
theorem costS_ok (act : List Bl) (pr : ByteArray → Int) (hpr : ∀ s, cOk (pr s)) : ∀ d s, cOk (costS act pr d s)
  | 0, s => hpr s
  | _ + 1, s => csFold_ok act _ (hpr s)
theorem csFold_take {f : ByteArray → Int} {s : ByteArray} {l : List Bl} {j : Nat} {x : Bl} {t : Int} (h : l[j]? = some x) : (l.take (j + 1)).foldl (csStep f s) t = csStep f s ((l.take j).foldl (csStep f s) t) x := by
  rw [List.take_add_one, h, List.foldl_append]; rfl
theorem csStep_other {f : ByteArray → Int} {s : ByteArray} {t : Int} {x : Bl} (h : ¬ x.par = s) : csStep f s t x = t := by unfold csStep; rw [if_neg h]
theorem csStep_neg {f : ByteArray → Int} {s : ByteArray} {t : Int} {x : Bl} (h : cOk t) (ht : t < 0) : csStep f s t x = t := by
  unfold csStep
  split
  · rw [cPlus_neg ht]; unfold cOk at h; omega
  · rfl
theorem csStep_add {f : ByteArray → Int} {s : ByteArray} {t : Int} {x : Bl} (h : cOk t) (ht : ¬ t < 0) (hp : x.par = s) (hq : 0 ≤ x.qty) : csStep f s t x = cAdd t (f x.part) x.qty := by
  unfold csStep
  rw [if_pos hp, cAdd_eq (by omega) hq h.2]
theorem price_ok (prices : List Nd) (s : ByteArray) : cOk (priceIn prices s) := by
  unfold priceIn cOk
  cases hf : prices.find? (priceHit s) with
  | none => simp
  | some x =>
    have := List.find?_some hf
    simp only [priceHit, Bool.and_eq_true, inB_true] at this
    simp only
    omega
/-- How often the map can be written by a call that goes d levels down. -/
def puts : Nat → Nat
  | 0 => 0
  | d + 1 => 24 * puts d + 1
theorem puts_mono : ∀ d, puts d ≤ puts (d + 1) := fun d => by show puts d ≤ 24 * puts d + 1; omega
theorem puts_le : ∀ {d e : Nat}, d ≤ e → puts d ≤ puts e := fun {d e} h => by
  induction e with
  | zero => rw [Nat.le_zero.1 h]; exact Nat.le_refl _
  | succ e ih =>
    rcases Nat.lt_or_ge d (e + 1) with h1 | h1
    · exact Nat.le_trans (ih (by omega)) (puts_mono e)
    · rw [show d = e + 1 by omega]; exact Nat.le_refl _
theorem puts_12 {d : Nat} (h : d ≤ 12) : puts d ≤ 4611686018427387904 := Nat.le_trans (puts_le h) (by decide)
def keyS (s : ByteArray) : Lit := .string s.data.toList
theorem keyS_ne {a b : ByteArray} (h : a ≠ b) : keyS a ≠ keyS b := fun e => by
  unfold keyS at e
  injection e with e
  exact h (text_inj (by rw [ByteArray.toList_eq, ByteArray.toList_eq]; exact e))
theorem keyS_lit (a : ByteArray) : WideAt.IsKeyLit (keyS a) := trivial
/-- What is known: right costs. -/
structure Known (D : DataW Unit) (f : ByteArray → Int) : Prop where
  isMap : Maps.IsMap D
  at_ : ∀ s : ByteArray, Maps.has D (keyS s) = true → D.atKey (keyS s) (.lit (.int .i64 0)) = .lit (.int .i64 (f s))
theorem known_nil (f : ByteArray → Int) : Known (.map []) f := ⟨isMap_empty, fun s h => by simp [Maps.has] at h⟩
theorem known_put {D : DataW Unit} {f : ByteArray → Int} (h : Known D f) (s : ByteArray) : Known (D.put (keyS s) (.lit (.int .i64 (f s)))) f := by
  refine ⟨h.isMap.put _ _, fun t ht => ?_⟩
  by_cases e : t = s
  · subst e
    rw [atKey_put_same h.isMap (keyS_lit _)]
  · rw [atKey_put_other (keyS_ne e)]
    rw [has_put_other (keyS_ne e)] at ht
    exact h.at_ t ht
end Go.Proofs.Ytnhkpdaogclfjaa
