/- Levels of a graph, by rounds: the plain words. No condition. -/
import Derived.Test.YtnhkpdaogclfjaaBase
namespace Go.Proofs.Ytnhkpdaogclfjaa

/-- A line from one item to another, by their places. -/
structure Eg where
  p : Nat
  q : Nat
def lvAt (out : List Int) (i : Nat) : Int := out.getD i 0
def lvStep (out : List Int) (e : Eg) : List Int := if lvAt out e.q ≤ lvAt out e.p then out.set e.q (lvAt out e.p + 1) else out
def lvRound (es : List Eg) (out : List Int) : List Int := es.foldl lvStep out
def lvIter (es : List Eg) (n : Nat) : Nat → List Int
  | 0 => List.replicate n 0
  | r + 1 => lvRound es (lvIter es n r)
def lvFix (es : List Eg) (n : Nat) : Bool := decide (lvRound es (lvIter es n n) = lvIter es n n)
def egIn (es : List Eg) (n : Nat) : Prop := ∀ e ∈ es, e.p < n ∧ e.q < n

theorem lvStep_len (out : List Int) (e : Eg) : (lvStep out e).length = out.length := by unfold lvStep; split <;> simp
theorem lvRound_len : ∀ (es : List Eg) (out : List Int), (lvRound es out).length = out.length
  | [], _ => rfl
  | e :: es, out => (lvRound_len es (lvStep out e)).trans (lvStep_len out e)
theorem lvIter_len (es : List Eg) (n : Nat) : ∀ r, (lvIter es n r).length = n
  | 0 => by simp [lvIter]
  | r + 1 => (lvRound_len es _).trans (lvIter_len es n r)
theorem lvAt_set {out : List Int} {q : Nat} {v : Int} (hq : q < out.length) (i : Nat) : lvAt (out.set q v) i = if i = q then v else lvAt out i := by
  unfold lvAt
  by_cases h : i = q
  · subst h; simp [List.getD, hq]
  · rw [if_neg h]; simp [List.getD, List.getElem?_set_ne (Ne.symm h)]
theorem lvStep_at {out : List Int} {e : Eg} (hq : e.q < out.length) (i : Nat) : lvAt (lvStep out e) i = if i = e.q ∧ lvAt out e.q ≤ lvAt out e.p then lvAt out e.p + 1 else lvAt out i := by
  unfold lvStep
  by_cases h : lvAt out e.q ≤ lvAt out e.p
  · rw [if_pos h, lvAt_set hq]; simp [h]
  · rw [if_neg h]; simp [h]
theorem lvStep_mono {out : List Int} {e : Eg} (hq : e.q < out.length) (i : Nat) : lvAt out i ≤ lvAt (lvStep out e) i := by
  rw [lvStep_at hq]
  split
  · next h => rw [h.1]; omega
  · omega
theorem lvRound_mono : ∀ {es : List Eg} {out : List Int}, egIn es out.length → ∀ i, lvAt out i ≤ lvAt (lvRound es out) i
  | [], _, _, _ => Int.le_refl _
  | e :: es, out, h, i => Int.le_trans (lvStep_mono (h e (by simp)).2 i) (lvRound_mono (es := es) (out := lvStep out e) (fun x hx => by rw [lvStep_len]; exact h x (by simp [hx])) i)
theorem lvRound_ge : ∀ {es : List Eg} {out : List Int}, egIn es out.length → ∀ e ∈ es, lvAt out e.p + 1 ≤ lvAt (lvRound es out) e.q
  | [], _, _, _, he => by simp at he
  | x :: es, out, h, e, he => by
    have h' : egIn es (lvStep out x).length := fun y hy => by rw [lvStep_len]; exact h y (by simp [hy])
    rcases List.mem_cons.1 he with rfl | he
    · have h1 := lvRound_mono h' e.q
      have h2 : lvAt out e.p + 1 ≤ lvAt (lvStep out e) e.q := by
        rw [lvStep_at (h e (by simp)).2]
        split
        · omega
        · next hn => have : ¬ lvAt out e.q ≤ lvAt out e.p := fun hc => hn ⟨rfl, hc⟩
                     omega
      exact Int.le_trans h2 h1
    · have h1 := lvRound_ge h' e he
      have h2 := lvStep_mono (out := out) (h x (by simp)).2 e.p
      exact Int.le_trans (by omega) h1
/-- A change that is made stays to be seen. -/
theorem lvStep_new {out0 out : List Int} {e : Eg} (hq : e.q < out.length) (h0 : ∀ i, lvAt out0 i ≤ lvAt out i) (h : lvAt out e.q ≤ lvAt out e.p) : lvStep out e ≠ out0 := fun hc => by
  have h1 := lvStep_at hq e.q
  rw [hc, if_pos ⟨rfl, h⟩] at h1
  have := h0 e.q
  omega
theorem lvRound_still {es : List Eg} {out : List Int} (hin : egIn es out.length) (h : lvRound es out = out) : ∀ e ∈ es, lvAt out e.p < lvAt out e.q := fun e he => by
  have := lvRound_ge hin e he
  rw [h] at this
  omega
theorem lvRound_of : ∀ {es : List Eg} {out : List Int}, (∀ e ∈ es, lvAt out e.p < lvAt out e.q) → lvRound es out = out
  | [], _, _ => rfl
  | e :: es, out, h => by
    have h1 : lvStep out e = out := by unfold lvStep; rw [if_neg]; have := h e (by simp); omega
    show lvRound es (lvStep out e) = out
    rw [h1]
    exact lvRound_of fun x hx => h x (by simp [hx])
theorem lvIter_below {es : List Eg} {n : Nat} (hin : egIn es n) {L : Nat → Int} (h0 : ∀ i, 0 ≤ L i) (hL : ∀ e ∈ es, L e.p < L e.q) : ∀ r i, lvAt (lvIter es n r) i ≤ L i := by
  have hr : ∀ (fs : List Eg) (out : List Int), egIn fs out.length → (∀ e ∈ fs, L e.p < L e.q) → (∀ i, lvAt out i ≤ L i) → ∀ i, lvAt (lvRound fs out) i ≤ L i := by
    intro fs
    induction fs with
    | nil => intro out _ _ h; exact h
    | cons e fs ih =>
      intro out h1 h2 h3
      refine ih (lvStep out e) (fun x hx => by rw [lvStep_len]; exact h1 x (by simp [hx])) (fun x hx => h2 x (by simp [hx])) fun i => ?_
      rw [lvStep_at (h1 e (by simp)).2]
      split
      · next h => have a := h2 e (by simp); have b := h3 e.p; rw [h.1]; omega
      · exact h3 i
  intro r
  induction r with
  | zero =>
    intro i
    have : lvAt (lvIter es n 0) i = 0 := by
      unfold lvAt lvIter
      rw [List.getD_eq_getElem?_getD, List.getElem?_replicate]
      split <;> rfl
    rw [this]; exact h0 i
  | succ r ih => exact hr es _ (by rw [lvIter_len]; exact hin) hL ih
/-- Each value above 0 has a reason. -/
def lvDue (es : List Eg) (out : List Int) : Prop := ∀ i, 0 ≤ lvAt out i ∧ (0 < lvAt out i → ∃ e ∈ es, e.q = i ∧ lvAt out i ≤ lvAt out e.p + 1)
theorem lvDue_step {es : List Eg} {out : List Int} {e : Eg} (he : e ∈ es) (hq : e.q < out.length) (h : lvDue es out) : lvDue es (lvStep out e) := fun i => by
  have hm : ∀ j, lvAt out j ≤ lvAt (lvStep out e) j := lvStep_mono hq
  have hi := lvStep_at (out := out) (e := e) hq i
  refine ⟨Int.le_trans (h i).1 (hm i), fun hp => ?_⟩
  by_cases hc : i = e.q ∧ lvAt out e.q ≤ lvAt out e.p
  · rw [if_pos hc] at hi
    exact ⟨e, he, hc.1.symm, by have := hm e.p; omega⟩
  · rw [if_neg hc] at hi
    obtain ⟨x, hx, h1, h2⟩ := (h i).2 (by omega)
    exact ⟨x, hx, h1, by have := hm x.p; omega⟩
theorem lvDue_iter {es : List Eg} {n : Nat} (hin : egIn es n) : ∀ r, lvDue es (lvIter es n r) := by
  have hr : ∀ (fs : List Eg) (out : List Int), (∀ x ∈ fs, x ∈ es) → egIn fs out.length → lvDue es out → lvDue es (lvRound fs out) := by
    intro fs
    induction fs with
    | nil => intro out _ _ h; exact h
    | cons e fs ih =>
      intro out h1 h2 h3
      exact ih (lvStep out e) (fun x hx => h1 x (by simp [hx])) (fun x hx => by rw [lvStep_len]; exact h2 x (by simp [hx])) (lvDue_step (h1 e (by simp)) (h2 e (by simp)).2 h3)
  intro r
  induction r with
  | zero =>
    intro i
    have : lvAt (lvIter es n 0) i = 0 := by
      unfold lvAt lvIter
      rw [List.getD_eq_getElem?_getD, List.getElem?_replicate]
      split <;> rfl
    rw [this]; exact ⟨Int.le_refl _, fun h => absurd h (by omega)⟩
  | succ r ih => exact hr es _ (fun _ h => h) (by rw [lvIter_len]; exact hin) ih
/-- Values 0 to m in a list: it has more than m members. -/
theorem steps_len : ∀ (m : Nat) (xs : List Int), (∀ k : Nat, k ≤ m → (k : Int) ∈ xs) → m + 1 ≤ xs.length
  | 0, xs, h => by
    have := h 0 (Nat.le_refl _)
    cases xs with
    | nil => simp at this
    | cons => simp
  | m + 1, xs, h => by
    have hm := h (m + 1) (Nat.le_refl _)
    have ih := steps_len m (xs.erase ((m + 1 : Nat) : Int)) fun k hk => (List.mem_erase_of_ne (by omega)).2 (h k (by omega))
    rw [List.length_erase_of_mem hm] at ih
    omega
theorem lvAt_mem {out : List Int} {i : Nat} (h : i < out.length) : lvAt out i ∈ out := by
  unfold lvAt
  rw [List.getD_eq_getElem?_getD, List.getElem?_eq_getElem h]
  exact List.getElem_mem h
/-- The levels that stay are less than the number of items. -/
theorem lv_small {es : List Eg} {n r : Nat} (hin : egIn es n) (hs : lvRound es (lvIter es n r) = lvIter es n r) {i : Nat} (hi : i < n) : 0 ≤ lvAt (lvIter es n r) i ∧ lvAt (lvIter es n r) i < n := by
  have hd := lvDue_iter hin r
  have hl := lvIter_len es n r
  have hst := lvRound_still (by rw [hl]; exact hin) hs
  refine ⟨(hd i).1, ?_⟩
  have key : ∀ (m : Nat) (j : Nat), j < n → lvAt (lvIter es n r) j = m → ∀ k : Nat, k ≤ m → (k : Int) ∈ lvIter es n r := by
    intro m
    induction m with
    | zero =>
      intro j hj h k hk
      obtain rfl : k = 0 := by omega
      rw [← h]; exact lvAt_mem (by omega)
    | succ m ih =>
      intro j hj h k hk
      by_cases hkm : k = m + 1
      · rw [hkm, ← h]; exact lvAt_mem (by omega)
      · obtain ⟨e, he, h1, h2⟩ := (hd j).2 (by omega)
        have h3 := hst e he
        rw [h1] at h3
        exact ih e.p (hin e he).1 (by omega) k (by omega)
  have := steps_len (lvAt (lvIter es n r) i).toNat (lvIter es n r) (key _ i hi (by have := (hd i).1; omega))
  rw [hl] at this
  omega
/-- What stays at all stays after as many rounds as there are items. -/
theorem lv_fix {es : List Eg} {n r : Nat} (hin : egIn es n) (hs : lvRound es (lvIter es n r) = lvIter es n r) : lvIter es n r = lvIter es n n ∧ lvFix es n = true := by
  have hl := lvIter_len es n r
  have hd := lvDue_iter hin r
  have hst := lvRound_still (by rw [hl]; exact hin) hs
  have hb := lvIter_below hin (L := lvAt (lvIter es n r)) (fun i => (hd i).1) hst
  have hup : ∀ (r' i : Nat), i < n → lvAt (lvIter es n r) i ≤ r' → lvAt (lvIter es n r') i = lvAt (lvIter es n r) i := by
    intro r'
    induction r' with
    | zero =>
      intro i hi h
      have h1 := hb 0 i
      have h2 := (lvDue_iter hin 0 i).1
      have h3 := (hd i).1
      omega
    | succ r' ih =>
      intro i hi h
      have h1 := hb (r' + 1) i
      have hle : lvAt (lvIter es n r') i ≤ lvAt (lvIter es n (r' + 1)) i := lvRound_mono (by rw [lvIter_len]; exact hin) i
      by_cases hc : lvAt (lvIter es n r) i ≤ r'
      · have := ih i hi hc; omega
      · obtain ⟨e, he, h2, h3⟩ := (hd i).2 (by omega)
        have h4 := hst e he
        rw [h2] at h4
        have h5 := ih e.p (hin e he).1 (by omega)
        have h6 : lvAt (lvIter es n r') e.p + 1 ≤ lvAt (lvIter es n (r' + 1)) e.q := lvRound_ge (by rw [lvIter_len]; exact hin) e he
        rw [h2] at h6
        omega
  have heq : lvIter es n r = lvIter es n n := by
    refine List.ext_getElem (by rw [hl, lvIter_len]) fun i h1 h2 => ?_
    have hi : i < n := by omega
    have := hup n i hi (by have := (lv_small hin hs hi).2; omega)
    unfold lvAt at this
    rw [List.getD_eq_getElem?_getD, List.getD_eq_getElem?_getD, List.getElem?_eq_getElem h1, List.getElem?_eq_getElem h2] at this
    exact this.symm
  exact ⟨heq, by rw [lvFix, ← heq]; simpa using hs⟩
theorem lvFix_no {es : List Eg} {n r : Nat} (hin : egIn es n) (h : lvFix es n = false) : lvRound es (lvIter es n r) ≠ lvIter es n r := fun hs => by
  rw [(lv_fix hin hs).2] at h; cases h
end Go.Proofs.Ytnhkpdaogclfjaa
