/- Layers as plain data: the laws on issuing, giving back, dropping and late costs. No condition. -/
import Derived.Test.YtlgodbjbllpipaaLay4
namespace Go.Proofs.Ytlgodbjbllpipaa
open Go.RowKit

/-! ### issuing, told from the head -/
def issR : List Lay → Int → List Lay
  | [], _ => []
  | x :: l, q => ⟨x.q, x.v, x.u + min q (x.q - x.u)⟩ :: issR l (q - min q (x.q - x.u))
def costR : List Lay → Int → Int
  | [], _ => 0
  | x :: l, q => lcost x (x.u + min q (x.q - x.u)) - lcost x x.u + costR l (q - min q (x.q - x.u))
def leftR : List Lay → Int → Int
  | [], q => q
  | x :: l, q => leftR l (q - min q (x.q - x.u))
theorem fold_issR : ∀ (l : List Lay) (s : IS), l.foldl issueF s = ⟨s.out ++ issR l s.left, s.cost + costR l s.left, leftR l s.left⟩
  | [], s => by simp [issR, costR, leftR]
  | x :: l, s => by
    rw [List.foldl_cons, fold_issR l]
    simp only [issueF, issR, costR, leftR, List.append_assoc, List.cons_append, List.nil_append]
    congr 1
    omega
theorem issueTo_all (l : List Lay) (q : Int) : issueTo l q l.length = ⟨issR l q, costR l q, leftR l q⟩ := by
  rw [issueTo, List.take_length, fold_issR]; simp
def sm (f : Lay → Int) (l : List Lay) : Int := (l.map f).sum
theorem sm_nil (f : Lay → Int) : sm f [] = 0 := rfl
theorem sm_cons (f : Lay → Int) (x : Lay) (l : List Lay) : sm f (x :: l) = f x + sm f l := by simp [sm]
theorem sumL_sm (f : Lay → Int) (l : List Lay) : sumL f l = sm f l := by rw [sumL, sumTo, List.take_length, sm]
def goneS (l : List Lay) : Int := sm (fun x => lcost x x.u) l
theorem goneS_nil : goneS [] = 0 := rfl
theorem goneS_cons (x : Lay) (l : List Lay) : goneS (x :: l) = lcost x x.u + goneS l := sm_cons _ x l
def worthS (l : List Lay) : Int := sm (fun x => x.v - lcost x x.u) l
theorem worthS_nil : worthS [] = 0 := rfl
theorem worthS_cons (x : Lay) (l : List Lay) : worthS (x :: l) = x.v - lcost x x.u + worthS l := sm_cons _ x l
def leftS (l : List Lay) : Int := sm (fun x => x.q - x.u) l
theorem leftS_nil : leftS [] = 0 := rfl
theorem leftS_cons (x : Lay) (l : List Lay) : leftS (x :: l) = x.q - x.u + leftS l := sm_cons _ x l
def usedS (l : List Lay) : Int := sm (fun x => x.u) l
theorem usedS_nil : usedS [] = 0 := rfl
theorem usedS_cons (x : Lay) (l : List Lay) : usedS (x :: l) = x.u + usedS l := sm_cons _ x l
def valS (l : List Lay) : Int := sm (fun x => x.v) l
theorem valS_nil : valS [] = 0 := rfl
theorem valS_cons (x : Lay) (l : List Lay) : valS (x :: l) = x.v + valS l := sm_cons _ x l
def goods (l : List Lay) : Prop := ∀ x ∈ l, layGood x
theorem goods_cons {x : Lay} {l : List Lay} (h : goods (x :: l)) : layGood x ∧ goods l := ⟨h x (by simp), fun y hy => h y (by simp [hy])⟩
theorem worth_gone (l : List Lay) : worthS l + goneS l = valS l := by
  induction l with
  | nil => rfl
  | cons x l ih => simp only [goneS_cons, worthS_cons, valS_cons] at *; omega
theorem lcost_u (x : Lay) (u n : Int) : lcost ⟨x.q, x.v, u⟩ n = lcost x n := rfl
theorem iss_gone (l : List Lay) (q : Int) : goneS (issR l q) = goneS l + costR l q := by
  induction l generalizing q with
  | nil => rfl
  | cons x l ih => simp only [issR, costR, goneS_cons, lcost_u, ih]; omega
theorem iss_val (l : List Lay) (q : Int) : valS (issR l q) = valS l := by
  induction l generalizing q with
  | nil => rfl
  | cons x l ih => simp only [issR, valS_cons, ih]
theorem iss_left (l : List Lay) (q : Int) : leftS (issR l q) = leftS l - (q - leftR l q) := by
  induction l generalizing q with
  | nil => simp [issR, leftR, leftS_nil]
  | cons x l ih => simp only [issR, leftR, leftS_cons, ih]; omega
theorem iss_used (l : List Lay) (q : Int) : usedS (issR l q) = usedS l + (q - leftR l q) := by
  induction l generalizing q with
  | nil => simp [issR, leftR, usedS_nil]
  | cons x l ih => simp only [issR, leftR, usedS_cons, ih]; omega
theorem leftS_nonneg {l : List Lay} (h : goods l) : 0 ≤ leftS l := by
  induction l with
  | nil => simp [leftS_nil]
  | cons x l ih =>
    obtain ⟨⟨_, _, _, _, _, _⟩, h2⟩ := goods_cons h
    have := ih h2
    simp only [leftS_cons] at *; omega
theorem usedS_nonneg {l : List Lay} (h : goods l) : 0 ≤ usedS l := by
  induction l with
  | nil => simp [usedS_nil]
  | cons x l ih =>
    obtain ⟨⟨_, _, _, _, _, _⟩, h2⟩ := goods_cons h
    have := ih h2
    simp only [usedS_cons] at *; omega
theorem leftR_zero {l : List Lay} (h : goods l) {q : Int} (hq : 0 ≤ q) (hl : q ≤ leftS l) : leftR l q = 0 := by
  induction l generalizing q with
  | nil => simp only [leftS_nil] at hl; simp only [leftR]; omega
  | cons x l ih =>
    obtain ⟨⟨_, _, _, _, _, _⟩, h2⟩ := goods_cons h
    simp only [leftR, leftS_cons] at *
    have := leftS_nonneg h2
    exact ih h2 (by omega) (by omega)
theorem iss_two {l : List Lay} (h : goods l) {a b : Int} (ha : 0 ≤ a) (hb : 0 ≤ b) : issR (issR l a) b = issR l (a + b) := by
  induction l generalizing a b with
  | nil => rfl
  | cons x l ih =>
    obtain ⟨⟨h1, h2, h3, h4, h5, h6⟩, hg⟩ := goods_cons h
    simp only [issR]
    rw [ih hg (by omega) (by omega)]
    have e1 : x.u + min a (x.q - x.u) + min b (x.q - (x.u + min a (x.q - x.u))) = x.u + min (a + b) (x.q - x.u) := by omega
    have e2 : a - min a (x.q - x.u) + (b - min b (x.q - (x.u + min a (x.q - x.u)))) = a + b - min (a + b) (x.q - x.u) := by omega
    rw [e1, e2]
theorem iss_goods {l : List Lay} (h : goods l) {q : Int} (hq : 0 ≤ q) : goods (issR l q) := by
  induction l generalizing q with
  | nil => simp [issR, goods]
  | cons x l ih =>
    obtain ⟨⟨h1, h2, h3, h4, h5, h6⟩, hg⟩ := goods_cons h
    intro y hy
    simp only [issR, List.mem_cons] at hy
    rcases hy with rfl | hy
    · refine ⟨h1, h2, h3, h4, ?_, ?_⟩ <;> simp only <;> omega
    · exact ih hg (by omega) y hy
theorem iss_len (l : List Lay) (q : Int) : (issR l q).length = l.length := by
  induction l generalizing q with
  | nil => rfl
  | cons x l ih => simp [issR, ih]

/-! ### the order of use -/
def chain : List Lay → Prop
  | [] => True
  | x :: l => (∀ y ∈ l, 0 < y.u → x.q ≤ x.u) ∧ chain l
theorem chain_of {l : List Lay} (hg : goods l) (hp : ∀ k x p, l[k + 1]? = some x → l[k]? = some p → 0 < x.u → p.q ≤ p.u) : chain l := by
  induction l with
  | nil => trivial
  | cons x l ih =>
    obtain ⟨hx, hgl⟩ := goods_cons hg
    have hc : chain l := ih hgl (fun k a b ha hb => hp (k + 1) a b (by simpa using ha) (by simpa using hb))
    refine ⟨?_, hc⟩
    intro y hy hu
    cases l with
    | nil => simp at hy
    | cons z m =>
      have hz : 0 < z.u := by
        rcases List.mem_cons.1 hy with rfl | hy
        · exact hu
        · have := hc.1 y hy hu
          have := (goods_cons hgl).1.1
          omega
      exact hp 0 z x (by simp) (by simp) hz
theorem chain_adj {l : List Lay} (h : chain l) : ∀ k x p, l[k + 1]? = some x → l[k]? = some p → 0 < x.u → p.q ≤ p.u := by
  induction l with
  | nil => simp
  | cons y l ih =>
    intro k x p hx hp hu
    cases k with
    | zero =>
      simp at hp; subst hp
      exact h.1 x (List.mem_of_getElem? (by simpa using hx)) hu
    | succ k => exact ih h.2 k x p (by simpa using hx) (by simpa using hp) hu
theorem areLayers_iff {l : List Lay} : areLayers l = true ↔ l.length ≤ 24 ∧ goods l ∧ chain l := by
  constructor
  · intro h
    have hg : goods l := areLayers_good' h
    exact ⟨areLayers_len h, hg, chain_of hg fun k x p hx hp hu => areLayers_prev h hx hp hu⟩
  · rintro ⟨h1, h2, h3⟩
    exact areLayers_of h1 h2 (chain_adj h3)
theorem iss_are {l : List Lay} (h : areLayers l = true) {q : Int} (hq : 0 ≤ q) : areLayers (issR l q) = true := by
  have := issue_are h hq
  rwa [issueTo_all] at this

/-! ### giving back what was issued -/
theorem ret_iss {l : List Lay} (hg : goods l) (hc : chain l) {q s : Int} (hq : 0 ≤ q) (hs : 0 ≤ s) (hu : 0 < s → ∀ y ∈ l, y.u = 0) :
    (issR l q).foldr retF ⟨[], 0, q - leftR l q + s⟩ = ⟨l, costR l q, s⟩ := by
  induction l generalizing q s with
  | nil => simp [issR, leftR, costR]
  | cons x l ih =>
    obtain ⟨⟨h1, h2, h3, h4, h5, h6⟩, hgl⟩ := goods_cons hg
    simp only [issR, leftR, costR, List.foldr_cons]
    have e : q - leftR l (q - min q (x.q - x.u)) + s = (q - min q (x.q - x.u)) - leftR l (q - min q (x.q - x.u)) + (min q (x.q - x.u) + s) := by omega
    rw [e, ih hgl hc.2 (by omega) (by omega) ?_]
    · have hm : min (min q (x.q - x.u) + s) (x.u + min q (x.q - x.u)) = min q (x.q - x.u) := by
        by_cases h0 : 0 < s
        · have := hu h0 x (by simp); omega
        · omega
      simp only [retF, lcost_u]
      rw [hm]
      have e1 : x.u + min q (x.q - x.u) - min q (x.q - x.u) = x.u := by omega
      have e2 : min q (x.q - x.u) + s - min q (x.q - x.u) = s := by omega
      rw [e1, e2]
      congr 1
      omega
    · intro hpos y hy
      by_cases h0 : 0 < s
      · exact hu h0 y (by simp [hy])
      · by_cases hy0 : 0 < y.u
        · have := hc.1 y hy hy0
          omega
        · have := hgl y hy
          unfold layGood at this
          omega

/-! ### dropping -/
theorem lcost_full {x : Lay} (hq : 1 ≤ x.q) : lcost x x.q = x.v := by
  unfold lcost; exact Int.mul_ediv_cancel _ (by omega)
theorem drop_chain {l : List Lay} (h : chain l) : chain (l.filter left) := by
  induction l with
  | nil => exact h
  | cons x l ih =>
    rw [List.filter_cons]
    split
    · refine ⟨fun y hy hu => h.1 y ?_ hu, ih h.2⟩
      exact (List.mem_filter.1 hy).1
    · exact ih h.2
theorem drop_goods {l : List Lay} (h : goods l) : goods (l.filter left) := fun x hx => h x (List.mem_filter.1 hx).1
theorem drop_are {l : List Lay} (h : areLayers l = true) : areLayers (l.filter left) = true := by
  obtain ⟨h1, h2, h3⟩ := areLayers_iff.1 h
  exact areLayers_iff.2 ⟨Nat.le_trans (List.length_filter_le _ _) h1, drop_goods h2, drop_chain h3⟩
theorem drop_left {l : List Lay} (h : goods l) : leftS (l.filter left) = leftS l := by
  induction l with
  | nil => rfl
  | cons x l ih =>
    obtain ⟨⟨h1, h2, h3, h4, h5, h6⟩, hg⟩ := goods_cons h
    rw [List.filter_cons]
    split
    · simp only [leftS_cons, ih hg]
    · next hn =>
      simp only [left, decide_eq_true_eq] at hn
      simp only [leftS_cons, ih hg]; omega
theorem drop_worth {l : List Lay} (h : goods l) : worthS (l.filter left) = worthS l := by
  induction l with
  | nil => rfl
  | cons x l ih =>
    obtain ⟨⟨h1, h2, h3, h4, h5, h6⟩, hg⟩ := goods_cons h
    rw [List.filter_cons]
    split
    · simp only [worthS_cons, ih hg]
    · next hn =>
      simp only [left, decide_eq_true_eq] at hn
      have e : x.u = x.q := by omega
      have := lcost_full h1
      simp only [worthS_cons, ih hg]; rw [e]; omega
theorem drop_cost {l : List Lay} (h : goods l) {q : Int} (hq : 0 ≤ q) : costR (l.filter left) q = costR l q := by
  induction l generalizing q with
  | nil => rfl
  | cons x l ih =>
    obtain ⟨⟨h1, h2, h3, h4, h5, h6⟩, hg⟩ := goods_cons h
    rw [List.filter_cons]
    split
    · simp only [costR]; rw [ih hg (by omega)]
    · next hn =>
      simp only [left, decide_eq_true_eq] at hn
      have e : min q (x.q - x.u) = 0 := by omega
      simp only [costR]
      rw [e, Int.sub_zero, Int.add_zero, ih hg hq]; omega
theorem dropOut_filter {l : List Lay} (h : areLayers l = true) : dropOut l = l.filter left := by
  rw [dropOut, if_pos h, dropTo, List.take_length]

/-! ### a late cost -/
theorem late_sm {f : Lay → Int} : ∀ {l : List Lay} {k : Nat} {x y : Lay}, l[k]? = some x → sm f (l.set k y) = sm f l - f x + f y
  | [], k, x, y, h => by simp at h
  | z :: l, 0, x, y, h => by
    simp at h; subst h
    simp only [List.set_cons_zero, sm_cons]; omega
  | z :: l, k + 1, x, y, h => by
    simp only [List.set_cons_succ, sm_cons]
    rw [late_sm (by simpa using h)]; omega
theorem lateL_cons (z : Lay) (l : List Lay) (k : Nat) (a : Int) : lateL (z :: l) (k + 1) a = z :: lateL l k a := by
  unfold lateL
  simp only [List.getElem?_cons_succ]
  split <;> simp
theorem lateL_zero (z : Lay) (l : List Lay) (a : Int) : lateL (z :: l) 0 a = bump z a :: l := by simp [lateL]
theorem iss_late (l : List Lay) (k : Nat) (a q : Int) : issR (lateL l k a) q = lateL (issR l q) k a := by
  induction l generalizing k q with
  | nil => simp [lateL, issR]
  | cons z l ih =>
    cases k with
    | zero => simp only [lateL_zero, issR, bump]
    | succ k => simp only [lateL_cons, issR, ih]
theorem late_gone {l : List Lay} {k : Nat} (hk : k < l.length) (a : Int) : goneS (lateL l k a) = goneS l + lateDiff l k a := by
  have hx : l[k]? = some l[k] := List.getElem?_eq_getElem hk
  rw [lateL_at hx, lateDiff_at hx, goneS, late_sm hx]
  simp only [bump, goneS]; omega
theorem late_val {l : List Lay} {k : Nat} (hk : k < l.length) (a : Int) : valS (lateL l k a) = valS l + a := by
  have hx : l[k]? = some l[k] := List.getElem?_eq_getElem hk
  rw [lateL_at hx, valS, late_sm hx]
  simp only [bump, valS]; omega
theorem late_left (l : List Lay) (k : Nat) (a : Int) : leftS (lateL l k a) = leftS l := by
  unfold lateL
  split
  · next x hx => rw [leftS, late_sm hx]; simp only [bump, leftS]; omega
  · rfl

/-! ### in the words of the walks -/
theorem leftOf_are {l : List Lay} (h : areLayers l = true) : leftOf l = leftS l := by rw [leftOf, if_pos h, sumL_sm, leftS]
theorem worthOf_are {l : List Lay} (h : areLayers l = true) : worthOf l = worthS l := by rw [worthOf, if_pos h, sumL_sm, worthS]
theorem goneCost_are {l : List Lay} (h : areLayers l = true) : goneCost l = goneS l := by rw [goneCost, if_pos h, sumL_sm, goneS]
theorem issueOk_iff {l : List Lay} {q : Int} : issueOk l q = true ↔ areLayers l = true ∧ 1 ≤ q ∧ q ≤ leftS l := by
  unfold issueOk
  rw [Bool.and_eq_true, inB_true]
  constructor
  · rintro ⟨h, h1, h2⟩; exact ⟨h, h1, by rwa [leftOf_are h] at h2⟩
  · rintro ⟨h, h1, h2⟩; exact ⟨h, h1, by rwa [leftOf_are h]⟩
theorem issueOut_ok {l : List Lay} {q : Int} (h : issueOk l q = true) : issueOut l q = issR l q := by rw [issueOut, if_pos h, issueTo_all]
theorem issueCost_ok {l : List Lay} {q : Int} (h : issueOk l q = true) : issueCost l q = costR l q := by rw [issueCost, if_pos h, issueTo_all]
theorem issueOut_no {l : List Lay} {q : Int} (h : issueOk l q = false) : issueOut l q = [] := by rw [issueOut, h]; rfl
theorem issueCost_no {l : List Lay} {q : Int} (h : issueOk l q = false) : issueCost l q = 0 := by rw [issueCost, h]; rfl
theorem lateOk_iff {l : List Lay} {k a : Int} : lateOk l k a = true ↔ areLayers l = true ∧ 0 ≤ k ∧ k < l.length ∧ -1000000000 ≤ a ∧ a ≤ 1000000000 ∧ areLayers (lateL l k.toNat a) = true := by
  unfold lateOk lateIn
  simp only [Bool.and_eq_true, inB_true]
  constructor
  · rintro ⟨⟨h, h1, h2⟩, h3⟩; exact ⟨h, h1.1, by omega, h2.1, h2.2, h3⟩
  · rintro ⟨h, h1, h2, h3, h4, h5⟩; exact ⟨⟨h, ⟨h1, by omega⟩, h3, h4⟩, h5⟩

/-! ### the laws -/
theorem law_issue {l : List Lay} {q : Int} (h : issueOk l q = true) :
    worthOf l + goneCost l = valS l ∧ worthOf (issueOut l q) + issueCost l q = worthOf l ∧ leftOf (issueOut l q) + q = leftOf l ∧ goneCost (issueOut l q) = goneCost l + issueCost l q ∧ areLayers (issueOut l q) = true := by
  obtain ⟨ha, h1, h2⟩ := issueOk_iff.1 h
  have hg := (areLayers_iff.1 ha).2.1
  have hi := iss_are ha (q := q) (by omega)
  rw [issueOut_ok h, issueCost_ok h, worthOf_are ha, worthOf_are hi, goneCost_are ha, goneCost_are hi, leftOf_are ha, leftOf_are hi]
  have w1 := worth_gone l; have w2 := worth_gone (issR l q); have g := iss_gone l q; have v := iss_val l q; have i := iss_left l q; have z := leftR_zero hg (q := q) (by omega) h2
  exact ⟨by omega, by omega, by omega, by omega, hi⟩
theorem law_parts {l : List Lay} {q a : Int} (h : issueOk l q = true) (ha1 : 1 ≤ a) (ha2 : a < q) :
    issueOk l a = true ∧ issueOk (issueOut l a) (q - a) = true ∧ issueCost l a + issueCost (issueOut l a) (q - a) = issueCost l q ∧ issueOut (issueOut l a) (q - a) = issueOut l q := by
  obtain ⟨ha, h1, h2⟩ := issueOk_iff.1 h
  have hg := (areLayers_iff.1 ha).2.1
  have ok1 : issueOk l a = true := issueOk_iff.2 ⟨ha, ha1, by omega⟩
  have hi := iss_are ha (q := a) (by omega)
  have i := iss_left l a; have z := leftR_zero hg (q := a) (by omega) (by omega)
  have ok2 : issueOk (issR l a) (q - a) = true := issueOk_iff.2 ⟨hi, by omega, by omega⟩
  have t := iss_two hg (a := a) (b := q - a) (by omega) (by omega)
  rw [show a + (q - a) = q by omega] at t
  have g1 := iss_gone l a; have g2 := iss_gone (issR l a) (q - a); have g3 := iss_gone l q
  rw [t] at g2
  rw [issueOut_ok ok1]
  rw [issueCost_ok ok1, issueCost_ok ok2, issueCost_ok h, issueOut_ok ok2, issueOut_ok h]
  exact ⟨ok1, ok2, by omega, t⟩
theorem law_whole {l : List Lay} {q : Int} (h : issueOk l q = true) : issueOk l ((q + 1) / 2) = true := by
  obtain ⟨ha, h1, h2⟩ := issueOk_iff.1 h
  exact issueOk_iff.2 ⟨ha, by omega, by omega⟩
theorem law_back {l : List Lay} {q : Int} (h : issueOk l q = true) : retOk (issueOut l q) q = true ∧ retCost (issueOut l q) q = issueCost l q ∧ retOut (issueOut l q) q = l := by
  obtain ⟨ha, h1, h2⟩ := issueOk_iff.1 h
  obtain ⟨_, hg, hc⟩ := areLayers_iff.1 ha
  have hi := iss_are ha (q := q) (by omega)
  have z := leftR_zero hg (q := q) (by omega) h2
  have u := iss_used l q
  have un := usedS_nonneg hg
  have ok : retOk (issR l q) q = true := by
    unfold retOk
    rw [Bool.and_eq_true, inB_true, usedSum, sumL_sm]
    exact ⟨hi, h1, by show q ≤ usedS (issR l q); omega⟩
  have r := ret_iss hg hc (q := q) (s := 0) (by omega) (by omega) (by omega)
  rw [z, show q - 0 + 0 = q by omega] at r
  have e : retTo (issR l q) q 0 = ⟨l, costR l q, 0⟩ := by rw [retTo, List.drop_zero, r]
  rw [issueOut_ok h, issueCost_ok h]
  exact ⟨ok, by rw [retCost, if_pos ok, e], by rw [retOut, if_pos ok, e]⟩
theorem law_drop {l : List Lay} (h : areLayers l = true) (q : Int) :
    areLayers (dropOut l) = true ∧ leftOf (dropOut l) = leftOf l ∧ worthOf (dropOut l) = worthOf l ∧ issueOk (dropOut l) q = issueOk l q ∧ issueCost (dropOut l) q = issueCost l q := by
  have hg := (areLayers_iff.1 h).2.1
  have hd := drop_are h
  rw [dropOut_filter h]
  have e1 := drop_left hg; have e2 := drop_worth hg
  have e3 : issueOk (l.filter left) q = issueOk l q := by
    unfold issueOk
    rw [hd, h, leftOf_are hd, leftOf_are h, e1]
  refine ⟨hd, by rw [leftOf_are hd, leftOf_are h, e1], by rw [worthOf_are hd, worthOf_are h, e2], e3, ?_⟩
  cases hk : issueOk l q
  · rw [issueCost_no hk, issueCost_no (by rw [e3]; exact hk)]
  · rw [issueCost_ok hk, issueCost_ok (by rw [e3]; exact hk)]
    exact drop_cost hg (by have := (issueOk_iff.1 hk).2.1; omega)
theorem drop_no {l : List Lay} (h : areLayers l = false) : dropOut l = [] := by rw [dropOut, h]; rfl
theorem law_late {l : List Lay} {k a : Int} (h : lateOk l k a = true) :
    goneCost (lateOut l k a) = goneCost l + lateGone l k a ∧ worthOf (lateOut l k a) + lateGone l k a = worthOf l + a ∧ leftOf (lateOut l k a) = leftOf l := by
  obtain ⟨ha, h1, h2, _, _, h3⟩ := lateOk_iff.1 h
  rw [lateOut, lateGone, if_pos h, if_pos h, goneCost_are ha, goneCost_are h3, worthOf_are ha, worthOf_are h3, leftOf_are ha, leftOf_are h3]
  have hk : k.toNat < l.length := by omega
  have g := late_gone hk a; have v := late_val hk a
  have w1 := worth_gone l; have w2 := worth_gone (lateL l k.toNat a)
  exact ⟨g, by omega, late_left _ _ _⟩
theorem law_late_issue {l : List Lay} {k a q : Int} (h : lateOk l k a = true) (hq : 1 ≤ q) (hl : q ≤ leftOf l) :
    issueOk l q = true ∧ lateOk (issueOut l q) k a = true ∧ issueOk (lateOut l k a) q = true ∧ lateOut (issueOut l q) k a = issueOut (lateOut l k a) q ∧ issueCost l q + lateGone (issueOut l q) k a = lateGone l k a + issueCost (lateOut l k a) q := by
  obtain ⟨ha, h1, h2, h3, h4, h5⟩ := lateOk_iff.1 h
  rw [leftOf_are ha] at hl
  have o1 : issueOk l q = true := issueOk_iff.2 ⟨ha, hq, hl⟩
  have eo : lateOut l k a = lateL l k.toNat a := by rw [lateOut, if_pos h]
  have o2 : issueOk (lateL l k.toNat a) q = true := issueOk_iff.2 ⟨h5, hq, by rw [late_left]; exact hl⟩
  have hi := iss_are ha (q := q) (by omega)
  have hi2 := iss_are h5 (q := q) (by omega)
  rw [iss_late] at hi2
  have o3 : lateOk (issR l q) k a = true := lateOk_iff.2 ⟨hi, h1, by rw [iss_len]; exact h2, h3, h4, hi2⟩
  rw [eo, issueOut_ok o1, issueOut_ok o2, issueCost_ok o1, issueCost_ok o2, lateOut, if_pos o3, lateGone, if_pos o3, lateGone, if_pos h]
  have g1 := iss_gone l q
  have g2 := late_gone (l := issR l q) (k := k.toNat) (by rw [iss_len]; omega) a
  have g3 := late_gone (l := l) (k := k.toNat) (by omega) a
  have g4 := iss_gone (lateL l k.toNat a) q
  rw [iss_late] at g4
  exact ⟨o1, o3, o2, (iss_late _ _ _ _).symm, by omega⟩
theorem late_no {l : List Lay} {k a : Int} (h : lateOk l k a = false) : lateOut l k a = [] ∧ lateGone l k a = 0 := by
  rw [lateOut, lateGone, h]; exact ⟨rfl, rfl⟩
theorem goneCost_bd (l : List Lay) : 0 ≤ goneCost l ∧ goneCost l ≤ 24000000000 := by
  unfold goneCost; split
  · next h => rw [sumL]; have := sumTo_bd24 (gone_bd h) (by omega) (areLayers_len h) _ (Nat.le_refl _); omega
  · omega
theorem worthOf_bd (l : List Lay) : 0 ≤ worthOf l ∧ worthOf l ≤ 24000000000 := by
  unfold worthOf; split
  · next h => rw [sumL]; have := sumTo_bd24 (worth_bd h) (by omega) (areLayers_len h) _ (Nat.le_refl _); omega
  · omega
theorem leftOf_bd (l : List Lay) : 0 ≤ leftOf l ∧ leftOf l ≤ 2400000 := by
  unfold leftOf; split
  · next h => rw [sumL]; have := sumTo_bd24 (left_bd h) (by omega) (areLayers_len h) _ (Nat.le_refl _); omega
  · omega
theorem issueCost_bd (l : List Lay) (q : Int) : 0 ≤ issueCost l q ∧ issueCost l q ≤ 24000000000 := by
  unfold issueCost; split
  · next h =>
    obtain ⟨h1, h2, _⟩ := issueOk_iff.1 h
    have a := issueTo_bd h1 (q := q) (by omega) (Nat.le_refl _)
    have b := areLayers_len h1
    omega
  · omega
theorem lateGone_bd (l : List Lay) (k a : Int) : -24000000000 ≤ lateGone l k a ∧ lateGone l k a ≤ 24000000000 := by
  cases h : lateOk l k a
  · rw [(late_no h).2]; omega
  · have := (law_late h).1; have := goneCost_bd l; have := goneCost_bd (lateOut l k a); omega
end Go.Proofs.Ytlgodbjbllpipaa
