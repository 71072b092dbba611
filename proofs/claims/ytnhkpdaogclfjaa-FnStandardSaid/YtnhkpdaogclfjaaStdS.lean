/- Standard costs as the reference rolls them up: the plain words. No condition. -/
import Derived.Test.YtnhkpdaogclfjaaStdP
import Derived.Test.YtnhkpdaogclfjaaOrdW
namespace Go.Proofs.Ytnhkpdaogclfjaa

theorem lessC_irrefl : ∀ x : List UInt8, Op.bytesLess x x = false
  | [] => rfl
  | a :: x => by simp [Op.bytesLess, lessC_irrefl x]
theorem lessC_trans : ∀ {x y z : List UInt8}, Op.bytesLess x y = true → Op.bytesLess y z = true → Op.bytesLess x z = true
  | [], [], _, h, _ => by simp [Op.bytesLess] at h
  | [], _ :: _, [], _, h => by simp [Op.bytesLess] at h
  | [], _ :: _, _ :: _, _, _ => rfl
  | _ :: _, [], _, h, _ => by simp [Op.bytesLess] at h
  | _ :: _, _ :: _, [], _, h => by simp [Op.bytesLess] at h
  | a :: x, b :: y, c :: z, h, k => by
    simp only [Op.bytesLess, Bool.or_eq_true, Bool.and_eq_true, decide_eq_true_eq, beq_iff_eq] at h k ⊢
    rcases h with h | ⟨rfl, h⟩
    · rcases k with k | ⟨rfl, k⟩
      · exact .inl (UInt8.lt_trans h k)
      · exact .inl h
    · rcases k with k | ⟨rfl, k⟩
      · exact .inl k
      · exact .inr ⟨rfl, lessC_trans h k⟩
theorem cat_up {cat : List It} (hc : isCat cat = true) : ∀ (j i : Nat) (x y : It), i < j → cat[i]? = some x → cat[j]? = some y → txtLess x.code y.code = true := by
  have adj : ∀ (j : Nat) (x y : It), cat[j]? = some x → cat[j + 1]? = some y → txtLess x.code y.code = true := fun j x y hx hy => by
    simp only [isCat, Bool.and_eq_true] at hc
    have h1 := hc.1
    rw [allAt, List.all_eq_true] at h1
    have h2 := h1 (j + 1) (List.mem_range.2 (List.getElem?_eq_some_iff.1 hy).1)
    rw [hy] at h2
    simp only [catOk, Bool.and_eq_true] at h2
    have h3 := h2.2
    rw [rises_at (by omega) (by simpa using hx)] at h3
    exact h3
  intro j
  induction j with
  | zero => intro i _ _ h; omega
  | succ j ih =>
    intro i x y hij hx hy
    have hjl : j < cat.length := by have := (List.getElem?_eq_some_iff.1 hy).1; omega
    have hz : cat[j]? = some cat[j] := List.getElem?_eq_getElem hjl
    have h1 := adj j _ y hz hy
    rcases Nat.lt_or_ge i j with h | h
    · exact lessC_trans (ih i x _ h hx hz) h1
    · obtain rfl : i = j := by omega
      rw [hx] at hz
      injection hz with hz
      rw [hz]; exact h1
theorem find_self {cat : List It} (hc : isCat cat = true) {p : Nat} {x : It} (hx : cat[p]? = some x) : findAt cat x.code = p :=
  findAt_hit hx rfl fun j y hj hy e => by
    have := cat_up hc p j y x hj hy hx
    rw [e, txtLess, lessC_irrefl] at this
    cases this
def codeAt (cat : List It) (i : Nat) : ByteArray := match cat[i]? with | some x => x.code | none => ⟨#[]⟩
theorem codeAt_of {cat : List It} {i : Nat} {x : It} (h : cat[i]? = some x) : codeAt cat i = x.code := by simp [codeAt, h]
theorem codeAt_find {cat : List It} {s : ByteArray} {k : Nat} (h : findAt cat s = k) : codeAt cat k = s := by
  obtain ⟨j, x, e, hx, hs⟩ := findAt_some (cat := cat) (s := s) (by omega)
  have : j = k := by omega
  subst this
  rw [codeAt_of hx, hs]
/-- How the reference adds a line. -/
def csLine (f : ByteArray → Int) (s : ByteArray) (day : Int) (ch : List Pk) (t : Int) (x : Bl) : Int := if x.par = s ∧ lineOn day ch x = true then cPlus t (cTimes (f x.part) x.qty) else t
theorem fold_on (f : ByteArray → Int) (s : ByteArray) (day : Int) (ch : List Pk) : ∀ (l : List Bl) (t : Int), l.foldl (csLine f s day ch) t = (force l day ch).foldl (csStep f s) t
  | [], _ => rfl
  | x :: l, t => by
    unfold force
    rw [List.filter_cons]
    by_cases h : lineOn day ch x = true
    · rw [if_pos h, List.foldl_cons, List.foldl_cons]
      have e : csLine f s day ch t x = csStep f s t x := by simp [csLine, csStep, h]
      rw [e]
      exact fold_on f s day ch l _
    · rw [if_neg h, List.foldl_cons]
      have e : csLine f s day ch t x = t := by simp [csLine, h]
      rw [e]
      exact fold_on f s day ch l t
theorem csl_take {f : ByteArray → Int} {s : ByteArray} {day : Int} {ch : List Pk} {l : List Bl} {j : Nat} {x : Bl} {t : Int} (h : l[j]? = some x) : (l.take (j + 1)).foldl (csLine f s day ch) t = csLine f s day ch ((l.take j).foldl (csLine f s day ch) t) x := by
  rw [List.take_add_one, h, List.foldl_append]; rfl
theorem csl_ok {f : ByteArray → Int} {s : ByteArray} {day : Int} {ch : List Pk} : ∀ (l : List Bl) (t : Int), cOk t → cOk (l.foldl (csLine f s day ch) t)
  | [], _, h => h
  | x :: l, t, h => csl_ok l _ (by
    show cOk (csLine f s day ch t x)
    unfold csLine
    split
    · exact cPlus_ok _ _
    · exact h)
theorem csl_no {f : ByteArray → Int} {s : ByteArray} {day : Int} {ch : List Pk} {t : Int} {x : Bl} (h : ¬ (x.par = s ∧ lineOn day ch x = true)) : csLine f s day ch t x = t := by unfold csLine; rw [if_neg h]
theorem csl_yes {f : ByteArray → Int} {s : ByteArray} {day : Int} {ch : List Pk} {t : Int} {x : Bl} (h1 : x.par = s) (h2 : lineOn day ch x = true) : csLine f s day ch t x = cPlus t (cTimes (f x.part) x.qty) := by unfold csLine; rw [if_pos ⟨h1, h2⟩]
/-- The whole cost of an item, in the reference's order. -/
theorem cost_line {cat : List It} {l : List Bl} (h : isBills cat l = true) (pr : ByteArray → Int) (day : Int) (ch : List Pk) {s : ByteArray} (hs : 0 ≤ findAt cat s) :
    costS (force l day ch) pr cat.length s = l.foldl (csLine (costS (force l day ch) pr cat.length) s day ch) (pr s) := by
  have hb := lvl_bd h hs
  rw [fold_on, ← costS_all (rises_of h day ch) s hb.1 hb.2]
theorem ord_lt {cat : List It} {l : List Bl} {k p : Nat} (hk : (lvOrder (lvs cat l))[k]? = some p) : p < cat.length := by
  have := order_mem.1 (List.mem_of_getElem? hk)
  rw [lvs_len] at this
  exact this.1
/-- A part's item is behind its parent's in the order. -/
theorem ord_part {cat : List It} {l : List Bl} (h : isBills cat l = true) {k p q : Nat} {x : Bl} (hk : (lvOrder (lvs cat l))[k]? = some p) (hx : x ∈ l) (hp : findAt cat x.par = p) (hq : findAt cat x.part = q) : q ∈ (lvOrder (lvs cat l)).drop (k + 1) ∧ q ≠ p := by
  have hr := bills_rise h hx
  have hb := lvl_bd h (bills_in h x hx).2
  have hlt := findAt_lt (bills_in h x hx).2
  unfold lvl at hr hb
  rw [hp, hq] at hr
  rw [hq] at hb hlt
  simp only [Int.toNat_natCast] at hr hb hlt
  refine ⟨order_after hk (order_mem.2 ⟨by rw [lvs_len]; exact hlt, hb.1, by rw [lvs_len]; exact hb.2⟩) hr, fun e => by rw [e] at hr; omega⟩
theorem ord_all {cat : List It} {l : List Bl} (h : isBills cat l = true) {s : ByteArray} {a : Nat} (ha : findAt cat s = a) : a ∈ lvOrder (lvs cat l) := by
  have hs : 0 ≤ findAt cat s := by omega
  have hb := lvl_bd h hs
  have hlt := findAt_lt hs
  unfold lvl at hb
  rw [ha] at hb hlt
  simp only [Int.toNat_natCast] at hb hlt
  exact order_mem.2 ⟨by rw [lvs_len]; exact hlt, hb.1, by rw [lvs_len]; exact hb.2⟩
/-- The costs that are reckoned already. -/
def Reckoned (cat : List It) (f : ByteArray → Int) (ord : List Nat) (k : Nat) (cs : List Int) : Prop := ∀ i ∈ ord.drop k, lvAt cs i = f (codeAt cat i)
theorem reckoned_end (cat : List It) (f : ByteArray → Int) (ord : List Nat) (cs : List Int) : Reckoned cat f ord ord.length cs := by
  intro i hi; rw [List.drop_length] at hi; cases hi
theorem reckoned_more {cat : List It} {f : ByteArray → Int} {ord : List Nat} {k p : Nat} {cs cs' : List Int} (h : Reckoned cat f ord (k + 1) cs) (hk : ord[k]? = some p) (h1 : lvAt cs' p = f (codeAt cat p)) (h2 : ∀ i, i ≠ p → lvAt cs' i = lvAt cs i) : Reckoned cat f ord k cs' := by
  intro i hi
  rw [drop_cons hk] at hi
  by_cases e : i = p
  · rw [e, h1]
  · rcases List.mem_cons.1 hi with hi | hi
    · exact absurd hi e
    · rw [h2 i e]; exact h i hi
end Go.Proofs.Ytnhkpdaogclfjaa
