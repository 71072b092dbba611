/- Layers as plain data: what issuing leaves is right. No condition. -/
import Derived.Test.YtlgodbjbllpipaaLay3
namespace Go.Proofs.Ytlgodbjbllpipaa
open Go.RowKit

def layGood (x : Lay) : Prop := 1 ≤ x.q ∧ x.q ≤ 100000 ∧ 0 ≤ x.v ∧ x.v ≤ 1000000000 ∧ 0 ≤ x.u ∧ x.u ≤ x.q
theorem areLayers_of {l : List Lay} (hl : l.length ≤ 24) (h : ∀ x ∈ l, layGood x) (hp : ∀ k x p, l[k + 1]? = some x → l[k]? = some p → 0 < x.u → p.q ≤ p.u) : areLayers l = true := by
  rw [areLayers_good]
  · simp; omega
  · intro j hj
    obtain ⟨⟨q, v, u⟩, hx⟩ : ∃ x, l[j]? = some x := ⟨_, List.getElem?_eq_getElem hj⟩
    obtain ⟨g1, g2, g3, g4, g5, g6⟩ := h _ (List.mem_of_getElem? hx)
    simp only at g1 g2 g3 g4 g5 g6
    rw [layBad_eq hx, inB_true.2 ⟨g1, g2⟩, inB_true.2 ⟨g3, g4⟩, inB_true.2 ⟨g5, g6⟩]
    cases j with
    | zero => simp
    | succ k =>
      obtain ⟨p, hpk⟩ : ∃ p, l[k]? = some p := ⟨_, List.getElem?_eq_getElem (by omega)⟩
      have := hp k _ _ hx hpk
      simp only [Nat.add_sub_cancel, hpk, Bool.not_true, Bool.false_or, Bool.and_eq_false_iff, decide_eq_false_iff_not]
      by_cases hu : 0 < u
      · right; right
        have := this hu
        omega
      · right; left; exact hu
theorem areLayers_prev {l : List Lay} (h : areLayers l = true) {k : Nat} {x p : Lay} (hx : l[k + 1]? = some x) (hp : l[k]? = some p) (hu : 0 < x.u) : p.q ≤ p.u := by
  have hb := areLayers_notBad h (k + 1)
  have a := areLayers_at h hx
  obtain ⟨q, v, u⟩ := x
  obtain ⟨q', v', u'⟩ := p
  rw [layBad_prev hx (by simpa using hp) (inB_true.2 ⟨a.1, a.2.1⟩) (inB_true.2 ⟨a.2.2.1, a.2.2.2.1⟩) (inB_true.2 ⟨a.2.2.2.2.1, a.2.2.2.2.2⟩) (by omega) hu] at hb
  simpa using hb
theorem areLayers_good' {l : List Lay} (h : areLayers l = true) : ∀ x ∈ l, layGood x := fun _ hx => areLayers_mem h hx

/-- What stands at a place behind issuing. -/
theorem issueTo_at {l : List Lay} {q : Int} {k : Nat} (hk : k ≤ l.length) : ∀ j x, j < k → l[j]? = some x → (issueTo l q k).out[j]? = some ⟨x.q, x.v, x.u + min (issueTo l q j).left (x.q - x.u)⟩ := by
  induction k with
  | zero => intro j x hj; omega
  | succ k ih =>
    intro j x hj hx
    have hxk : l[k]? = some l[k] := List.getElem?_eq_getElem (by omega)
    rw [issueTo_succ hxk]
    simp only [issueF]
    rcases Nat.lt_or_ge j k with h | h
    · rw [List.getElem?_append_left (by rw [issueTo_len (by omega)]; exact h)]
      exact ih (by omega) j x h hx
    · have : j = k := by omega
      subst this
      rw [List.getElem?_append_right (by rw [issueTo_len (by omega)]; exact Nat.le_refl _), issueTo_len (by omega), Nat.sub_self]
      rw [hx] at hxk
      injection hxk with hxk
      rw [← hxk]; rfl
theorem issue_are {l : List Lay} (h : areLayers l = true) {q : Int} (hq : 0 ≤ q) : areLayers (issueTo l q l.length).out = true := by
  have hlen := issueTo_len (q := q) (Nat.le_refl l.length)
  have at_ := issueTo_at (q := q) (Nat.le_refl l.length)
  have get : ∀ j y, (issueTo l q l.length).out[j]? = some y → ∃ x, l[j]? = some x ∧ y = (⟨x.q, x.v, x.u + min (issueTo l q j).left (x.q - x.u)⟩ : Lay) := by
    intro j y hy
    have hj : j < l.length := by rw [← hlen]; exact (List.getElem?_eq_some_iff.1 hy).1
    have hx : l[j]? = some l[j] := List.getElem?_eq_getElem hj
    refine ⟨_, hx, ?_⟩
    rw [at_ j _ hj hx] at hy
    injection hy with hy
    exact hy.symm
  refine areLayers_of (by rw [hlen]; exact areLayers_len h) (fun y hy => ?_) (fun k y p hy hp hu => ?_)
  · obtain ⟨j, hj, rfl⟩ := List.getElem_of_mem hy
    obtain ⟨x, hx, e⟩ := get j _ (List.getElem?_eq_getElem hj)
    have a := areLayers_at h hx
    have b := issueTo_bd h hq (k := j) (Nat.le_of_lt (List.getElem?_eq_some_iff.1 hx).1)
    rw [e]
    refine ⟨a.1, a.2.1, a.2.2.1, a.2.2.2.1, ?_, ?_⟩ <;> simp only <;> omega
  · obtain ⟨x, hx, rfl⟩ := get _ _ hy
    obtain ⟨z, hz, rfl⟩ := get _ _ hp
    have a := areLayers_at h hz
    have a1 := areLayers_at h hx
    have b := issueTo_bd h hq (k := k) (Nat.le_of_lt (List.getElem?_eq_some_iff.1 hz).1)
    have hs : (issueTo l q (k + 1)).left = (issueTo l q k).left - min (issueTo l q k).left (z.q - z.u) := by rw [issueTo_succ hz]; rfl
    simp only at hu ⊢
    by_cases hxu : 0 < x.u
    · have := areLayers_prev h hx hz hxu
      omega
    · rw [hs] at hu
      omega
end Go.Proofs.Ytlgodbjbllpipaa
