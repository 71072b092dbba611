/- Trial balances and balances: the plain laws. No condition. -/
import Derived.Test.YtefhgilnfdmnlaaTrialW
import Derived.Test.YtefhgilnfdmnlaaAddW
import Derived.Test.YtefhgilnfdmnlaaLedgerB
import Derived.Test.YtefhgilnfdmnlaaPostedP
namespace Go.Proofs.Ytefhgilnfdmnlaa
open Go.ChangeShapes Go.WideShapes Go.ChangeAt Go.RowKit

theorem balTo_ents (ds : List Doc) (acc : ByteArray) (day : Int) (k : Nat) (hk : k ≤ ds.length) : balTo ds acc day k = sumAcc (allEnts (ds.take k) day) acc := by
  induction k with
  | zero => simp [balTo, allEnts, sumAcc, sumF]
  | succ k ih =>
    have hx : ds[k]? = some ds[k] := List.getElem?_eq_getElem (by omega)
    rw [allEnts_take hx, sumAcc_append, ← ih (by omega)]
    show sumF (docBal acc day) ds (k + 1) = sumF (docBal acc day) ds k + _
    rw [sumF_succ _ hx, docBal_eq]
    unfold entsTill
    split
    · rfl
    · simp [sumAcc, sumF]
theorem balance_ents {ds : List Doc} (h : areDocs ds = true) (acc : ByteArray) (day : Int) : balanceOf ds acc day = sumAcc (allEnts ds day) acc := by
  rw [balanceOf, if_pos h, balTo_ents _ _ _ _ (Nat.le_refl _), List.take_length]
theorem trial_canon (ds : List Doc) (day : Int) : Canon (trialDocs ds day) (fun s => balanceOf ds s day) := by
  cases h : areDocs ds
  · have e : trialDocs ds day = [] := by simp [trialDocs, h]
    rw [e]
    exact canon_ext canon_nil fun s => (balance_no h s day).symm
  · have e : trialDocs ds day = trialE (allEnts ds day) := by simp [trialDocs, h]
    rw [e]
    exact canon_ext (trialE_canon _) fun s => (balance_ents h s day).symm
def tot (l : List En) : Int := (l.map fun x => x.amt).sum
theorem tot_amtS (l : List En) : amtS l l.length = tot l := by simp [amtS, tot, sumF]
theorem tot_append (l m : List En) : tot (l ++ m) = tot l + tot m := by simp [tot]
theorem tot_cons (x : En) (l : List En) : tot (x :: l) = x.amt + tot l := by simp [tot]
theorem tot_add : ∀ (T : List En) (acc : ByteArray) (amt : Int), tot (addE T acc amt) = tot T + amt
  | [], acc, amt => by
    unfold addE
    split
    · simp [tot]; omega
    · simp [tot]
  | y :: r, acc, amt => by
    unfold addE
    split
    · rw [tot_cons, tot_add r, tot_cons]; omega
    · split
      · split
        · rw [tot_cons]; omega
        · rw [tot_cons, tot_cons]; dsimp only; omega
      · split
        · omega
        · rw [tot_cons]; dsimp only; omega
theorem tot_trial (l : List En) : tot (trialE l) = tot l := by
  have key : ∀ k, k ≤ l.length → tot (trialE (l.take k)) = tot (l.take k) := by
    intro k
    induction k with
    | zero => intro _; simp [trialE, tot]
    | succ k ih =>
      intro hk
      have hx : l[k]? = some l[k] := List.getElem?_eq_getElem (by omega)
      rw [trialE_take hx, tot_add, ih (by omega), takeSnoc hx, tot_append]
      simp [tot]
  have := key l.length (Nat.le_refl _)
  rwa [List.take_length] at this
theorem tot_ents {ds : List Doc} (h : ∀ d ∈ ds, areEntries d.ents = true) (day : Int) : tot (allEnts ds day) = 0 := by
  have key : ∀ k, k ≤ ds.length → tot (allEnts (ds.take k) day) = 0 := by
    intro k
    induction k with
    | zero => intro _; simp [allEnts, tot]
    | succ k ih =>
      intro hk
      have hx : ds[k]? = some ds[k] := List.getElem?_eq_getElem (by omega)
      rw [allEnts_take hx, tot_append, ih (by omega)]
      have := (areEntries_true (h ds[k] (List.getElem_mem _))).2.1
      rw [tot_amtS] at this
      unfold entsTill
      split
      · omega
      · simp [tot]
  have := key ds.length (Nat.le_refl _)
  rwa [List.take_length] at this
theorem tot_docs (ds : List Doc) (day : Int) : tot (trialDocs ds day) = 0 := by
  unfold trialDocs
  split
  · rename_i h; rw [tot_trial]; exact tot_ents (areDocs_ents h) day
  · rfl
theorem trialDocs_len2 {ds : List Doc} {N : Nat} (hn : ds.length ≤ N) (day : Int) : (trialDocs ds day).length ≤ N * 12 := by
  unfold trialDocs
  split
  · rename_i h
    have h1 := trialE_len (allEnts ds day)
    have h2 := allEnts_len (areDocs_ents h) day ds.length (Nat.le_refl _)
    rw [List.take_length] at h2
    omega
  · simp
theorem balance_bd2 {ds : List Doc} {N : Nat} (hn : ds.length ≤ N) (acc : ByteArray) (t : Int) : -(N * 12000000000) ≤ balanceOf ds acc t ∧ balanceOf ds acc t ≤ N * 12000000000 := by
  unfold balanceOf
  split
  · rename_i h
    have b := sumF_bd (f := docBal acc t) (l := ds) (M := 12000000000) (fun d hd => part_bd (areDocs_ents h d hd) acc t _ (Nat.le_refl _)) ds.length (Nat.le_refl _)
    unfold balTo
    omega
  · omega
theorem trialDocs_bd {ds : List Doc} {N : Nat} (hn : ds.length ≤ N) {day : Int} {x : En} (hx : x ∈ trialDocs ds day) : -(N * 12000000000) ≤ x.amt ∧ x.amt ≤ N * 12000000000 := by
  rw [((trial_canon ds day).2.1 x hx).2]; exact balance_bd2 hn _ _
theorem trialDocs_code {ds : List Doc} {day : Int} {x : En} (hx : x ∈ trialDocs ds day) : isCode x.acc = true := by
  unfold trialDocs at hx
  split at hx
  · rename_i h
    obtain ⟨y, hy, e⟩ := trialE_acc hx
    rw [← e]
    exact (enGood_amt (allEnts_good (areDocs_ents h) day y hy)).2.2.2
  · simp at hx
theorem wide_of {ds : List Doc} (hn : ds.length ≤ 6) {day : Int} {x : En} (hx : x ∈ trialDocs ds day) : enWide x = true := by
  have := trialDocs_bd hn hx
  simp only [enWide, trialDocs_code hx, Bool.true_and, inB_true]
  omega
theorem neg_small {x : En} (h1 : -1000000000000 ≤ x.amt) (h2 : x.amt ≤ 1000000000000) : (negE x).amt = -x.amt := by
  show wrap64 (-x.amt) = -x.amt
  rw [← IntWalk.i64_left]
  exact IntWalk.i64_in (-x.amt) (by omega)
theorem addOk_of {a b : List En} (hl : a.length + b.length ≤ 1001) (ha : ∀ x ∈ a, enWide x = true) (hb : ∀ x ∈ b, enWide x = true) : addOk a b = true :=
  addOk_good hl fun _ x hx => (List.mem_append.1 (List.mem_of_getElem? hx)).elim (ha x) (hb x)
theorem neg_wide {x : En} (h : enWide x = true) : enWide (negE x) = true := by
  have h1 := enWide_amt h
  have h2 := neg_small h1.1 h1.2
  simp only [enWide, Bool.and_eq_true, inB_true] at h ⊢
  rw [h2]
  exact ⟨h.1, by omega⟩
theorem sumAcc_neg {l : List En} (h : ∀ x ∈ l, enWide x = true) (s : ByteArray) : sumAcc (negEn l) s = -sumAcc l s := by
  unfold sumAcc sumF negEn
  simp only [List.take_length, List.map_map]
  have : ∀ m : List En, (∀ x ∈ m, enWide x = true) → (m.map (entHit s ∘ negE)).sum = -(m.map (entHit s)).sum := by
    intro m
    induction m with
    | nil => simp
    | cons y m ih =>
      intro hm
      have h1 := enWide_amt (hm y (by simp))
      have h2 := neg_small h1.1 h1.2
      have e : entHit s (negE y) = -entHit s y := by
        unfold entHit
        show (if y.acc = s then (negE y).amt else 0) = _
        split
        · exact h2
        · rfl
      simp only [List.map_cons, List.sum_cons, Function.comp_apply]
      rw [ih fun x hx => hm x (by simp [hx]), e]; omega
  exact this l h
theorem canon_zero {T : List En} (h : Canon T (fun _ => 0)) : T = [] := by
  cases T with
  | nil => rfl
  | cons x T =>
    have := h.2.1 x (by simp)
    exact absurd this.2 this.1
theorem add_neg {l : List En} (h : ∀ x ∈ l, enWide x = true) (hl : l.length + l.length ≤ 1001) : addOk l (negEn l) = true ∧ addOut l (negEn l) = [] := by
  have h1 : addOk l (negEn l) = true := addOk_of (by rw [negEn_len]; exact hl) h fun x hx => by
    obtain ⟨y, hy, rfl⟩ := List.mem_map.1 hx
    exact neg_wide (h y hy)
  refine ⟨h1, ?_⟩
  rw [addOut, if_pos h1]
  refine canon_zero (canon_ext (trialE_canon _) fun s => ?_)
  rw [sumAcc_append, sumAcc_neg h]; omega
/-- Is an account among the first? -/
def hasAcc (l : List En) (s : ByteArray) (j : Nat) : Bool := (l.take j).any fun x => decide (x.acc = s)
theorem hasAcc_zero (l : List En) (s : ByteArray) : hasAcc l s 0 = false := by simp [hasAcc]
theorem hasAcc_succ {l : List En} {s : ByteArray} {j : Nat} {x : En} (h : l[j]? = some x) : hasAcc l s (j + 1) = (hasAcc l s j || decide (x.acc = s)) := by
  unfold hasAcc; rw [takeSnoc h, List.any_append]; simp
theorem hasAcc_all {l : List En} {f : ByteArray → Int} (h : Canon l f) (s : ByteArray) : hasAcc l s l.length = (f s != 0) := by
  unfold hasAcc
  rw [List.take_length, Bool.eq_iff_iff]
  simp only [List.any_eq_true, decide_eq_true_eq, bne_iff_ne, ne_eq]
  constructor
  · rintro ⟨x, hx, rfl⟩
    have := h.2.1 x hx
    rw [← this.2]; exact this.1
  · intro hs
    obtain ⟨x, hx, e⟩ := h.2.2 s hs
    exact ⟨x, hx, e⟩
theorem rising_at {l : List En} (h : Rising En.acc l) {k : Nat} {x y : En} (hx : l[k]? = some x) (hy : l[k + 1]? = some y) : txtLess x.acc y.acc = true := by
  obtain ⟨h1, e1⟩ := List.getElem?_eq_some_iff.1 hx
  obtain ⟨h2, e2⟩ := List.getElem?_eq_some_iff.1 hy
  have := List.pairwise_iff_getElem.1 h k (k + 1) h1 h2 (by omega)
  rwa [e1, e2] at this
end Go.Proofs.Ytefhgilnfdmnlaa
