/- Balances of accounts: the plain words of lists with rising accounts, in which no amount is 0. No condition. -/
import Derived.Test.YtefhgilnfdmnlaaLess
import Derived.Test.YtefhgilnfdmnlaaDocC
namespace Go.Proofs.Ytefhgilnfdmnlaa
open Go.ChangeShapes Go.WideShapes Go.ChangeAt Go.RowKit

/-- T has the amounts that f gives, each account once, in order, where they are not 0. -/
def Canon (T : List En) (f : ByteArray → Int) : Prop := Rising En.acc T ∧ (∀ x ∈ T, x.amt ≠ 0 ∧ x.amt = f x.acc) ∧ ∀ s, f s ≠ 0 → ∃ x ∈ T, x.acc = s
theorem canon_mem {T : List En} {f : ByteArray → Int} (h : Canon T f) (x : En) : x ∈ T ↔ x.amt ≠ 0 ∧ x.amt = f x.acc := by
  refine ⟨fun hx => h.2.1 x hx, fun ⟨h0, h1⟩ => ?_⟩
  obtain ⟨y, hy, he⟩ := h.2.2 x.acc (by rw [← h1]; exact h0)
  have h2 := (h.2.1 y hy).2
  have : x = y := by
    cases x; cases y
    simp only at he h1 h2
    subst he
    rw [h1, h2]
  rw [this]; exact hy
theorem canon_unique {T U : List En} {f : ByteArray → Int} (h : Canon T f) (k : Canon U f) : T = U :=
  rising_ext h.1 k.1 fun x => by rw [canon_mem h, canon_mem k]
theorem canon_ext {T : List En} {f g : ByteArray → Int} (h : Canon T f) (e : ∀ s, f s = g s) : Canon T g := by
  have : f = g := funext e
  rw [← this]; exact h
theorem canon_nil : Canon [] (fun _ => 0) := ⟨List.Pairwise.nil, by simp, by simp⟩

/-- An amount added in such a list. -/
def addE : List En → ByteArray → Int → List En
  | [], acc, amt => if amt = 0 then [] else [⟨acc, amt⟩]
  | x :: r, acc, amt => if txtLess x.acc acc = true then x :: addE r acc amt else if x.acc = acc then (if amt + x.amt = 0 then r else ⟨acc, amt + x.amt⟩ :: r) else (if amt = 0 then x :: r else ⟨acc, amt⟩ :: x :: r)
theorem addE_acc : ∀ {T : List En} {acc : ByteArray} {amt : Int} {x : En}, x ∈ addE T acc amt → x.acc = acc ∨ x ∈ T
  | [], acc, amt, x, h => by
    unfold addE at h
    split at h
    · simp at h
    · simp at h; rw [h]; exact .inl rfl
  | y :: r, acc, amt, x, h => by
    unfold addE at h
    split at h
    · rcases List.mem_cons.1 h with rfl | h
      · exact .inr (by simp)
      · rcases addE_acc h with h | h
        · exact .inl h
        · exact .inr (by simp [h])
    · split at h
      · split at h
        · exact .inr (by simp [h])
        · rcases List.mem_cons.1 h with rfl | h
          · exact .inl rfl
          · exact .inr (by simp [h])
      · split at h
        · exact .inr h
        · rcases List.mem_cons.1 h with rfl | h
          · exact .inl rfl
          · exact .inr h
theorem addE_len : ∀ (T : List En) (acc : ByteArray) (amt : Int), (addE T acc amt).length ≤ T.length + 1
  | [], acc, amt => by unfold addE; split <;> simp
  | y :: r, acc, amt => by
    unfold addE
    have := addE_len r acc amt
    split
    · simp; omega
    · split
      · split
        · simp; omega
        · simp
      · split <;> simp
theorem addE_rising : ∀ {T : List En} (acc : ByteArray) (amt : Int), Rising En.acc T → Rising En.acc (addE T acc amt)
  | [], acc, amt, _ => by unfold addE; split <;> simp [Rising]
  | y :: r, acc, amt, h => by
    obtain ⟨h1, h2⟩ := List.pairwise_cons.1 h
    unfold addE
    split
    · rename_i hl
      refine List.pairwise_cons.2 ⟨fun x hx => ?_, addE_rising acc amt h2⟩
      rcases addE_acc hx with e | hx
      · rw [e]; exact hl
      · exact h1 x hx
    · rename_i hl
      split
      · rename_i he
        split
        · exact h2
        · exact List.pairwise_cons.2 ⟨fun x hx => by rw [← he]; exact h1 x hx, h2⟩
      · rename_i he
        split
        · exact h
        · refine List.pairwise_cons.2 ⟨fun x hx => ?_, h⟩
          have hy : txtLess acc y.acc = true := by
            cases hc : txtLess acc y.acc
            · exact absurd (txt_tri (by simpa using hl) hc) he
            · rfl
          rcases List.mem_cons.1 hx with rfl | hx
          · exact hy
          · exact txt_trans hy (h1 x hx)
theorem addE_mem : ∀ {T : List En} {acc : ByteArray} {amt : Int}, Rising En.acc T → ∀ x : En, x ∈ addE T acc amt ↔ (x ∈ T ∧ x.acc ≠ acc) ∨ (x.acc = acc ∧ x.amt ≠ 0 ∧ ∃ b : Int, ((⟨acc, b⟩ : En) ∈ T ∨ (b = 0 ∧ ∀ y ∈ T, y.acc ≠ acc)) ∧ x.amt = amt + b)
  | [], acc, amt, _, x => by
    unfold addE
    by_cases h0 : amt = 0
    · rw [if_pos h0]
      constructor
      · intro h; simp at h
      · rintro (⟨h, _⟩ | ⟨_, h, b, hb, e⟩)
        · simp at h
        · rcases hb with hb | ⟨hb, _⟩
          · simp at hb
          · omega
    · rw [if_neg h0]
      constructor
      · intro h
        simp at h; subst h
        exact .inr ⟨rfl, h0, 0, .inr ⟨rfl, by simp⟩, by simp⟩
      · rintro (⟨h, _⟩ | ⟨ha, h, b, hb, e⟩)
        · simp at h
        · rcases hb with hb | ⟨hb, _⟩
          · simp at hb
          · cases x; simp only at ha e; subst ha; simp; omega
  | y :: r, acc, amt, hr, x => by
    obtain ⟨h1, h2⟩ := List.pairwise_cons.1 hr
    unfold addE
    by_cases hl : txtLess y.acc acc = true
    · rw [if_pos hl]
      have hne := txt_ne hl
      rw [List.mem_cons, addE_mem h2 x]
      constructor
      · rintro (rfl | ⟨h, h'⟩ | ⟨ha, h0, b, hb, e⟩)
        · exact .inl ⟨by simp, hne⟩
        · exact .inl ⟨by simp [h], h'⟩
        · refine .inr ⟨ha, h0, b, ?_, e⟩
          rcases hb with hb | ⟨hb, hb'⟩
          · exact .inl (by simp [hb])
          · refine .inr ⟨hb, fun z hz => ?_⟩
            rcases List.mem_cons.1 hz with rfl | hz
            · exact hne
            · exact hb' z hz
      · rintro (⟨h, h'⟩ | ⟨ha, h0, b, hb, e⟩)
        · rcases List.mem_cons.1 h with rfl | h
          · exact .inl rfl
          · exact .inr (.inl ⟨h, h'⟩)
        · refine .inr (.inr ⟨ha, h0, b, ?_, e⟩)
          rcases hb with hb | ⟨hb, hb'⟩
          · rcases List.mem_cons.1 hb with hb | hb
            · rw [← hb] at hne; exact absurd rfl hne
            · exact .inl hb
          · exact .inr ⟨hb, fun z hz => hb' z (by simp [hz])⟩
    · rw [if_neg hl]
      have hrest : ∀ z ∈ r, z.acc ≠ acc ∨ False := fun z hz => by
        refine .inl fun e => ?_
        have := h1 z hz
        rw [e] at this
        exact absurd this hl
      have hr' : ∀ z ∈ r, z.acc ≠ acc := fun z hz => (hrest z hz).resolve_right id
      by_cases he : y.acc = acc
      · rw [if_pos he]
        by_cases h0 : amt + y.amt = 0
        · rw [if_pos h0]
          constructor
          · intro h; exact .inl ⟨by simp [h], hr' x h⟩
          · rintro (⟨h, h'⟩ | ⟨ha, h0', b, hb, e⟩)
            · rcases List.mem_cons.1 h with rfl | h
              · exact absurd he h'
              · exact h
            · rcases hb with hb | ⟨_, hb'⟩
              · rcases List.mem_cons.1 hb with hb | hb
                · rw [← hb] at h0; simp only at h0; omega
                · exact absurd rfl (hr' _ hb)
              · exact absurd he (hb' y (by simp))
        · rw [if_neg h0]
          constructor
          · intro h
            rcases List.mem_cons.1 h with rfl | h
            · exact .inr ⟨rfl, h0, y.amt, .inl (by rw [← he]; simp), rfl⟩
            · exact .inl ⟨by simp [h], hr' x h⟩
          · rintro (⟨h, h'⟩ | ⟨ha, h0', b, hb, e⟩)
            · rcases List.mem_cons.1 h with rfl | h
              · exact absurd he h'
              · simp [h]
            · rcases hb with hb | ⟨_, hb'⟩
              · rcases List.mem_cons.1 hb with hb | hb
                · rw [← hb]; cases x; simp only at ha e; subst ha; simp [e]
                · exact absurd rfl (hr' _ hb)
              · exact absurd he (hb' y (by simp))
      · rw [if_neg he]
        have hall : ∀ z ∈ y :: r, z.acc ≠ acc := fun z hz => by
          rcases List.mem_cons.1 hz with rfl | hz
          · exact he
          · exact hr' z hz
        by_cases h0 : amt = 0
        · rw [if_pos h0]
          constructor
          · intro h; exact .inl ⟨h, hall x h⟩
          · rintro (⟨h, _⟩ | ⟨ha, h0', b, hb, e⟩)
            · exact h
            · rcases hb with hb | ⟨hb, _⟩
              · exact absurd rfl (hall _ hb)
              · omega
        · rw [if_neg h0]
          constructor
          · intro h
            rcases List.mem_cons.1 h with rfl | h
            · exact .inr ⟨rfl, h0, 0, .inr ⟨rfl, hall⟩, by simp⟩
            · exact .inl ⟨h, hall x h⟩
          · rintro (⟨h, _⟩ | ⟨ha, h0', b, hb, e⟩)
            · simp [h]
            · rcases hb with hb | ⟨hb, _⟩
              · exact absurd rfl (hall _ hb)
              · cases x; simp only at ha e; subst ha; simp; left; omega
theorem canon_add {T : List En} {f : ByteArray → Int} (h : Canon T f) (acc : ByteArray) (amt : Int) : Canon (addE T acc amt) (fun s => f s + if s = acc then amt else 0) := by
  have hb : ∀ b : Int, ((⟨acc, b⟩ : En) ∈ T ∨ (b = 0 ∧ ∀ y ∈ T, y.acc ≠ acc)) ↔ b = f acc := by
    intro b
    constructor
    · rintro (hb | ⟨rfl, hb⟩)
      · exact (h.2.1 _ hb).2
      · by_cases hf : f acc = 0
        · exact hf.symm
        · obtain ⟨x, hx, he⟩ := h.2.2 acc hf
          exact absurd he (hb x hx)
    · intro e
      by_cases hf : f acc = 0
      · refine .inr ⟨by rw [e, hf], fun y hy he => ?_⟩
        have := h.2.1 y hy
        rw [he, hf] at this
        exact this.1 this.2
      · exact .inl ((canon_mem h _).2 ⟨by simp only; rw [e]; exact hf, e⟩)
  refine ⟨addE_rising acc amt h.1, fun x hx => ?_, fun s hs => ?_⟩
  · dsimp only
    rcases (addE_mem h.1 x).1 hx with ⟨hx, hne⟩ | ⟨ha, h0, b, hb', e⟩
    · have := h.2.1 x hx
      rw [if_neg hne]; exact ⟨this.1, by omega⟩
    · rw [if_pos ha, ha]
      have := (hb b).1 hb'
      exact ⟨h0, by omega⟩
  · dsimp only at hs
    by_cases he : s = acc
    · subst he
      rw [if_pos rfl] at hs
      exact ⟨⟨s, amt + f s⟩, (addE_mem h.1 _).2 (.inr ⟨rfl, by simp only; omega, f s, (hb _).2 rfl, rfl⟩), rfl⟩
    · rw [if_neg he] at hs
      obtain ⟨x, hx, hxs⟩ := h.2.2 s (by omega)
      exact ⟨x, (addE_mem h.1 x).2 (.inl ⟨hx, by rw [hxs]; exact he⟩), hxs⟩

/-- The loop's words: what stands ahead of the account is kept. -/
theorem addE_at : ∀ {T : List En} {acc : ByteArray} {amt : Int} {k : Nat}, (∀ (j : Nat) (x : En), j < k → T[j]? = some x → txtLess x.acc acc = true) → k ≤ T.length → addE T acc amt = T.take k ++ addE (T.drop k) acc amt
  | _, _, _, 0, _, _ => by simp
  | [], _, _, k + 1, _, hk => by simp at hk
  | x :: r, acc, amt, k + 1, h, hk => by
    have h0 := h 0 x (by omega) rfl
    rw [List.take_succ_cons, List.drop_succ_cons, List.cons_append, ← addE_at (fun j y hj hy => h (j + 1) y (by omega) (by simpa using hy)) (by simpa using hk)]
    rw [addE, if_pos h0]
theorem addE_end {T : List En} {acc : ByteArray} {amt : Int} (h : ∀ (j : Nat) (x : En), T[j]? = some x → txtLess x.acc acc = true) : addE T acc amt = T ++ if amt = 0 then [] else [⟨acc, amt⟩] := by
  rw [addE_at (k := T.length) (fun j x _ hx => h j x hx) (Nat.le_refl _)]
  simp [addE]
theorem drop_atE {α : Type} {l : List α} {k : Nat} {x : α} (h : l[k]? = some x) : l.drop k = x :: l.drop (k + 1) := by
  have hk := (List.getElem?_eq_some_iff.1 h)
  rw [List.drop_eq_getElem_cons hk.1, hk.2]
theorem addE_hit {T : List En} {acc : ByteArray} {amt : Int} {k : Nat} {x : En} (h : ∀ (j : Nat) (x : En), j < k → T[j]? = some x → txtLess x.acc acc = true) (hx : T[k]? = some x) (hl : txtLess x.acc acc = false) (he : x.acc = acc) :
    addE T acc amt = T.take k ++ (if amt + x.amt = 0 then [] else [⟨acc, amt + x.amt⟩]) ++ T.drop (k + 1) := by
  have hk := (List.getElem?_eq_some_iff.1 hx).1
  rw [addE_at h (by omega), drop_atE hx, addE, if_neg (by rw [hl]; simp), if_pos he]
  split <;> simp
theorem addE_miss {T : List En} {acc : ByteArray} {amt : Int} {k : Nat} {x : En} (h : ∀ (j : Nat) (x : En), j < k → T[j]? = some x → txtLess x.acc acc = true) (hx : T[k]? = some x) (hl : txtLess x.acc acc = false) (he : ¬ x.acc = acc) :
    addE T acc amt = T.take k ++ (if amt = 0 then [] else [⟨acc, amt⟩]) ++ T.drop k := by
  have hk := (List.getElem?_eq_some_iff.1 hx).1
  rw [addE_at h (by omega), drop_atE hx, addE, if_neg (by rw [hl]; simp), if_neg he]
  split <;> simp

/-- All entries, one behind another. -/
def trialE (l : List En) : List En := l.foldl (fun T x => addE T x.acc x.amt) []
def sumAcc (l : List En) (s : ByteArray) : Int := sumF (entHit s) l l.length
theorem trialE_snoc (l : List En) (x : En) : trialE (l ++ [x]) = addE (trialE l) x.acc x.amt := by simp [trialE]
theorem trialE_take {l : List En} {k : Nat} {x : En} (h : l[k]? = some x) : trialE (l.take (k + 1)) = addE (trialE (l.take k)) x.acc x.amt := by
  rw [List.take_add_one, h]; exact trialE_snoc _ _
theorem sumAcc_snoc (l : List En) (x : En) (s : ByteArray) : sumAcc (l ++ [x]) s = sumAcc l s + entHit s x := by
  simp only [sumAcc, sumF, List.take_length, List.map_append, List.sum_append, List.map_cons, List.map_nil, List.sum_cons, List.sum_nil]; omega
theorem sumAcc_append (l m : List En) (s : ByteArray) : sumAcc (l ++ m) s = sumAcc l s + sumAcc m s := by
  simp only [sumAcc, sumF, List.take_length, List.map_append, List.sum_append]
theorem trialE_canon (l : List En) : Canon (trialE l) (sumAcc l) := by
  have key : ∀ k, k ≤ l.length → Canon (trialE (l.take k)) (sumAcc (l.take k)) := by
    intro k
    induction k with
    | zero => intro _; exact canon_ext canon_nil fun s => by simp [sumAcc, sumF]
    | succ k ih =>
      intro hk
      have hx : l[k]? = some l[k] := List.getElem?_eq_getElem (by omega)
      rw [trialE_take hx]
      refine canon_ext (canon_add (ih (by omega)) _ _) fun s => ?_
      rw [List.take_add_one, hx]
      show _ = sumAcc (l.take k ++ [l[k]]) s
      rw [sumAcc_snoc, entHit]
      have : (s = l[k].acc) ↔ (l[k].acc = s) := ⟨Eq.symm, Eq.symm⟩
      simp only [this]
  have := key l.length (Nat.le_refl _)
  rwa [List.take_length] at this
theorem trialE_len (l : List En) : (trialE l).length ≤ l.length := by
  have key : ∀ k, k ≤ l.length → (trialE (l.take k)).length ≤ k := by
    intro k
    induction k with
    | zero => intro _; simp [trialE]
    | succ k ih =>
      intro hk
      have hx : l[k]? = some l[k] := List.getElem?_eq_getElem (by omega)
      rw [trialE_take hx]
      have := addE_len (trialE (l.take k)) l[k].acc l[k].amt
      have := ih (by omega)
      omega
  have := key l.length (Nat.le_refl _)
  rwa [List.take_length] at this
theorem sumAcc_bd {l : List En} {M : Int} (hM : 0 ≤ M) (h : ∀ x ∈ l, -M ≤ x.amt ∧ x.amt ≤ M) (s : ByteArray) : -(l.length * M) ≤ sumAcc l s ∧ sumAcc l s ≤ l.length * M :=
  sumF_bd (fun x hx => by have := h x hx; unfold entHit; split <;> omega) _ (Nat.le_refl _)
theorem trialE_amt {l : List En} {x : En} (h : x ∈ trialE l) : x.amt ≠ 0 ∧ x.amt = sumAcc l x.acc := (trialE_canon l).2.1 x h
theorem trialE_acc {l : List En} {x : En} (h : x ∈ trialE l) : ∃ y ∈ l, y.acc = x.acc := by
  have key : ∀ k, k ≤ l.length → ∀ x ∈ trialE (l.take k), ∃ y ∈ l.take k, y.acc = x.acc := by
    intro k
    induction k with
    | zero => intro _ x hx; simp [trialE] at hx
    | succ k ih =>
      intro hk x hx
      have hg : l[k]? = some l[k] := List.getElem?_eq_getElem (by omega)
      rw [trialE_take hg] at hx
      rw [List.take_add_one, hg]
      rcases addE_acc hx with e | hx
      · exact ⟨l[k], List.mem_append.2 (.inr (by simp)), e.symm⟩
      · obtain ⟨y, hy, e⟩ := ih (by omega) x hx
        exact ⟨y, List.mem_append.2 (.inl hy), e⟩
  have := key l.length (Nat.le_refl _)
  rw [List.take_length] at this
  exact this x h
end Go.Proofs.Ytefhgilnfdmnlaa
