/- What a reversed document leaves: the plain laws; sameEntries. No condition. -/
import Derived.Test.YtefhgilnfdmnlaaTrialsP
import Derived.Test.YtefhgilnfdmnlaaReverse
namespace Go.Proofs.Ytefhgilnfdmnlaa
open Go.ChangeShapes Go.WideShapes Go.ChangeAt Go.RowKit

theorem canon_sum {T : List En} {f : ByteArray → Int} (h : Canon T f) (s : ByteArray) : sumAcc T s = f s := by
  have key : ∀ U : List En, Rising En.acc U → ∀ s, sumAcc U s = match U.find? (fun x => decide (x.acc = s)) with | some x => x.amt | none => 0 := by
    intro U
    induction U with
    | nil => intro _ s; rfl
    | cons y U ih =>
      intro hr s
      obtain ⟨h1, h2⟩ := List.pairwise_cons.1 hr
      have e : sumAcc (y :: U) s = entHit s y + sumAcc U s := by
        have := sumAcc_append [y] U s
        rw [List.singleton_append] at this
        rw [this]
        congr 1
        simp [sumAcc, sumF]
      rw [e, ih h2 s, List.find?_cons]
      unfold entHit
      by_cases hy : y.acc = s
      · simp only [hy, if_true, decide_true]
        have : U.find? (fun x => decide (x.acc = s)) = none := by
          rw [List.find?_eq_none]
          intro x hx
          have := txt_ne (h1 x hx)
          simp only [decide_eq_true_eq]
          rw [hy] at this
          exact fun e => this e.symm
        rw [this]; simp
      · simp only [hy, if_false, decide_false]; simp
  rw [key T h.1 s]
  by_cases hf : f s = 0
  · rw [hf]
    have : T.find? (fun x => decide (x.acc = s)) = none := by
      rw [List.find?_eq_none]
      intro x hx
      simp only [decide_eq_true_eq]
      intro e
      have := h.2.1 x hx
      rw [e, hf] at this
      exact this.1 this.2
    rw [this]
  · obtain ⟨x, hx, e⟩ := h.2.2 s hf
    cases hq : T.find? (fun x => decide (x.acc = s)) with
    | none =>
      rw [List.find?_eq_none] at hq
      exact absurd e (by simpa using hq x hx)
    | some y =>
      have h1 := List.mem_of_find?_eq_some hq
      have h2 := List.find?_some hq
      simp only [decide_eq_true_eq] at h2
      have := (h.2.1 y h1).2
      rw [h2] at this
      exact this
/-- What is known where a document has been reversed. -/
structure Reversed (ds : List Doc) (k : Nat) (day : Int) (es : List En) : Prop where
  are : areDocs ds = true
  at_ : ∃ d, ds[k]? = some d ∧ d.ents = es
  ok : areDocs (withDoc ds day (negEn es)) = true
theorem reversed_of {ds : List Doc} {num day : Int} (h : revOk ds num day = true) : ∃ (k : Nat) (es : List En), num = (k : Int) + 1 ∧ Reversed ds k day es ∧ revDocs ds num day = withDoc ds day (negEn es) := by
  simp only [revOk, revAt, Bool.and_eq_true, inB_true] at h
  obtain ⟨⟨h1, h2, h3⟩, h4⟩ := h
  obtain ⟨k, rfl⟩ : ∃ k : Nat, num = (k : Int) + 1 := ⟨(num - 1).toNat, by omega⟩
  have hk : k < ds.length := by omega
  have hd : ds[k]? = some ds[k] := List.getElem?_eq_getElem hk
  rw [entsOf_at hd] at h4
  refine ⟨k, ds[k].ents, rfl, ⟨h1, ⟨_, hd, rfl⟩, h4⟩, ?_⟩
  have : revAt ds ((k : Int) + 1) = true := by simp [revAt, h1, inB_true]; omega
  rw [revDocs, if_pos this, entsOf_at hd, postDocs_yes h4]
theorem revDocs_no {ds : List Doc} {num day : Int} (h : revOk ds num day = false) : revDocs ds num day = [] := by
  unfold revDocs
  split
  · rename_i h1
    simp only [revOk, h1, Bool.true_and] at h
    exact postDocs_no h
  · rfl
theorem rev_small {ds : List Doc} {num day : Int} (h : docsSmall ds) : docsSmall (revDocs ds num day) := by
  cases ho : revOk ds num day
  · rw [revDocs_no ho]; intro d hd; simp at hd
  · obtain ⟨k, es, _, R, e⟩ := reversed_of ho
    rw [e]
    obtain ⟨d, hd, he⟩ := R.at_
    have := h d (List.mem_of_getElem? hd)
    rw [he] at this
    exact docsSmall_with h (by rw [negEn_len]; exact this.1) (negEn_ok this.2)
section
variable {ds : List Doc} {k : Nat} {day : Int} {es : List En}
theorem Reversed.good (h : Reversed ds k day es) : areEntries es = true := by
  obtain ⟨d, hd, rfl⟩ := h.at_
  exact areDocs_ents h.are d (List.mem_of_getElem? hd)
theorem Reversed.wide (h : Reversed ds k day es) : ∀ x ∈ es, enWide x = true := fun x hx => by
  have := enGood_amt ((areEntries_true h.good).1 x hx)
  simp only [enWide, this.2.2.2, Bool.true_and, inB_true]; omega
theorem Reversed.bal (h : Reversed ds k day es) (s : ByteArray) : balanceOf (withDoc ds day (negEn es)) s 999 = balanceOf ds s 999 - sumAcc es s := by
  obtain ⟨_, h1, h2, _⟩ := areDocs_with h.ok
  rw [balance_with h.ok, if_pos h2, sumAcc_neg h.wide]; omega
theorem Reversed.added (h : Reversed ds k day es) (hl : ds.length ≤ 5) :
    addOk (trialDocs (withDoc ds day (negEn es)) 999) es = true ∧ addOut (trialDocs (withDoc ds day (negEn es)) 999) es = trialDocs ds 999 := by
  have hl2 : (withDoc ds day (negEn es)).length ≤ 6 := by rw [withDoc_len]; omega
  have h1 := trialDocs_len2 hl2 999
  have h2 := (areEntries_true h.good).2.2.2
  have ok := addOk_of (a := trialDocs (withDoc ds day (negEn es)) 999) (b := es) (by omega) (fun x hx => wide_of hl2 hx) h.wide
  refine ⟨ok, ?_⟩
  rw [addOut, if_pos ok]
  refine canon_unique (canon_ext (trialE_canon _) fun s => ?_) (trial_canon ds 999)
  rw [sumAcc_append, canon_sum (trial_canon _ 999), h.bal]; omega
theorem Reversed.again (h : Reversed ds k day es) (day' : Int) (h2 : revOk (withDoc ds day (negEn es)) ((ds.length : Int) + 1) day' = true) :
    trialDocs (revDocs (withDoc ds day (negEn es)) ((ds.length : Int) + 1) day') 999 = trialDocs ds 999 := by
  obtain ⟨k', es', e1, r, e2⟩ := reversed_of h2
  obtain rfl : k' = ds.length := by omega
  obtain ⟨d, hd, he⟩ := r.at_
  rw [with_last] at hd
  injection hd with hd
  rw [← hd] at he
  simp only at he
  rw [e2]
  refine canon_unique (canon_ext (trial_canon _ 999) fun s => ?_) (trial_canon ds 999)
  rw [r.bal, h.bal, ← he, sumAcc_neg h.wide]; omega
end
set_option maxHeartbeats 1000000 in
theorem sameEntries_true (A : Option Addr) (n c : Nat) (l : List En) (A' : Option Addr) (c' : Nat) (w : World) (hr : RS w 2 A n (l.flatMap enCell)) (hr' : RS w 2 A' n (l.flatMap enCell)) (hn : n ≤ 9223372036854775807) :
    Calls Try.prog 44 #[.slice A n c, .slice A' n c'] w fun e w' => e = .returned (.bool true) ∧ Below w.heap.size w w' := by
  go_enter Try.func44, Try.ntmps44
  go_wp2
  go_loopw [5] (fun i wr => ∃ k : Nat, k ≤ n ∧ i = .int .i64 k ∧ Below w.heap.size w wr) (fun i _ => n - (intOf i).toNat)
  case atStart => exact ⟨0, Nat.zero_le _, rfl, Below.refl _ _⟩
  case round =>
    obtain ⟨k, hk, rfl, hb⟩ := hrel
    by_cases hlt : k < n
    · obtain ⟨g, off, rfl, ⟨ac, am⟩, hx, h0, h1⟩ := (hr.below hb).enAt hlt
      obtain ⟨g', off', rfl, x', hx', k0, k1⟩ := (hr'.below hb).enAt hlt
      rw [hx] at hx'
      obtain rfl : (⟨ac, am⟩ : En) = x' := by simpa using hx'
      simp only at h0 h1 k0 k1
      clear hx hx'
      have i1 : (0 : Int) ≤ k := by omega
      have i2 : (k : Int) < n := by omega
      go_wp2
      go_quiet (fail)
      go_wp2
      go_roundw
      case rel => exact ⟨k + 1, by omega, by go_num, below_drewN hb _⟩
      case measure => simp [intOf]; omega
    · go_wp2
      have : k = n := by omega
      subst this
      go_ret
      exact ⟨rfl, hb⟩
end Go.Proofs.Ytefhgilnfdmnlaa
