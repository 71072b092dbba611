/- Batches that are reached over uses: the plain words. No condition. -/
import Derived.Test.YtaldlinekipblaaSUse
import Derived.Test.YtaldlinekipblaaLess
import Derived.Test.YtaldlinekipblaaText
namespace Go.Proofs.Ytaldlinekipblaa

def uA (up : Bool) (u : Us) : ByteArray := if up then u.into else u.frm
def uB (up : Bool) (u : Us) : ByteArray := if up then u.frm else u.into
def hasB (s : ByteArray) (l : List ByteArray) : Bool := l.any fun x => decide (x = s)
theorem hasB_iff {s : ByteArray} {l : List ByteArray} : hasB s l = true ↔ s ∈ l := by
  simp only [hasB, List.any_eq_true, decide_eq_true_eq]
  exact ⟨fun ⟨x, hx, e⟩ => e ▸ hx, fun h => ⟨s, h, rfl⟩⟩
theorem hasB_no {s : ByteArray} {l : List ByteArray} : hasB s l = false ↔ s ∉ l := by
  rw [← hasB_iff]; simp
def see (up : Bool) (cur : ByteArray) (f : List ByteArray) (u : Us) : List ByteArray := if decide (uA up u = cur) && !hasB (uB up u) f then f ++ [uB up u] else f
def seeTo (up : Bool) (us : List Us) (cur : ByteArray) (f : List ByteArray) (k : Nat) : List ByteArray := (us.take k).foldl (see up cur) f
def found (up : Bool) (us : List Us) (b : ByteArray) : Nat → List ByteArray
  | 0 => [b]
  | i + 1 => match (found up us b i)[i]? with
    | some cur => seeTo up us cur (found up us b i) us.length
    | none => found up us b i
def reachL (up : Bool) (us : List Us) (b : ByteArray) : List ByteArray := found up us b (us.length + 1)

theorem seeTo_zero (up : Bool) (us : List Us) (cur : ByteArray) (f : List ByteArray) : seeTo up us cur f 0 = f := by simp [seeTo]
theorem seeTo_succ {up : Bool} {us : List Us} {cur : ByteArray} {f : List ByteArray} {k : Nat} {u : Us} (h : us[k]? = some u) : seeTo up us cur f (k + 1) = see up cur (seeTo up us cur f k) u := by
  obtain ⟨hk, rfl⟩ := List.getElem?_eq_some_iff.1 h
  unfold seeTo
  rw [List.take_succ_eq_append_getElem hk, List.foldl_append, List.foldl_cons, List.foldl_nil]
theorem see_hit {up : Bool} {cur : ByteArray} {f : List ByteArray} {u : Us} (h : uA up u = cur) (k : uB up u ∉ f) : see up cur f u = f ++ [uB up u] := by
  unfold see; rw [if_pos (by rw [hasB_no.2 k]; simp [h])]
theorem see_far {up : Bool} {cur : ByteArray} {f : List ByteArray} {u : Us} (h : ¬ uA up u = cur) : see up cur f u = f := by
  unfold see; rw [if_neg (by simp [h])]
theorem see_old {up : Bool} {cur : ByteArray} {f : List ByteArray} {u : Us} (k : uB up u ∈ f) : see up cur f u = f := by
  unfold see; rw [if_neg (by rw [hasB_iff.2 k]; simp)]
theorem see_way (up : Bool) (cur : ByteArray) (f : List ByteArray) (u : Us) : (uA up u = cur ∧ uB up u ∉ f ∧ see up cur f u = f ++ [uB up u]) ∨ see up cur f u = f := by
  by_cases h : uA up u = cur
  · by_cases k : uB up u ∈ f
    · exact .inr (see_old k)
    · exact .inl ⟨h, k, see_hit h k⟩
  · exact .inr (see_far h)
theorem see_pre (up : Bool) (cur : ByteArray) (f : List ByteArray) (u : Us) : f <+: see up cur f u := by
  rcases see_way up cur f u with ⟨_, _, e⟩ | e <;> rw [e]
  · exact List.prefix_append _ _
  · exact List.prefix_refl _
theorem seeTo_pre (up : Bool) (us : List Us) (cur : ByteArray) (f : List ByteArray) : ∀ k, f <+: seeTo up us cur f k
  | 0 => by rw [seeTo_zero]; exact List.prefix_refl _
  | k + 1 => by
    cases h : us[k]? with
    | some u => rw [seeTo_succ h]; exact (seeTo_pre up us cur f k).trans (see_pre _ _ _ _)
    | none =>
      have : seeTo up us cur f (k + 1) = seeTo up us cur f k := by
        have hk := List.getElem?_eq_none_iff.1 h
        simp [seeTo, List.take_of_length_le hk, List.take_of_length_le (Nat.le_succ_of_le hk)]
      rw [this]; exact seeTo_pre up us cur f k
/-- What a list of finds is. -/
structure FoundOk (up : Bool) (us : List Us) (b : ByteArray) (P : ByteArray → Prop) (f : List ByteArray) : Prop where
  nodup : f.Nodup
  sub : ∀ x ∈ f, x = b ∨ x ∈ us.map (uB up)
  all : ∀ x ∈ f, P x
theorem see_ok {up : Bool} {us : List Us} {b cur : ByteArray} {P : ByteArray → Prop} {f : List ByteArray} {u : Us} (h : FoundOk up us b P f) (hu : u ∈ us) (hP : uA up u = cur → P (uB up u)) : FoundOk up us b P (see up cur f u) := by
  rcases see_way up cur f u with ⟨hc1, hc2, e⟩ | e <;> rw [e]
  · have hc : uA up u = cur ∧ uB up u ∉ f := ⟨hc1, hc2⟩
    clear e
    refine ⟨?_, fun x hx => ?_, fun x hx => ?_⟩
    · rw [List.nodup_append]; exact ⟨h.nodup, by simp, fun a ha c hc' e => by simp at hc'; subst e hc'; exact hc.2 ha⟩
    · rcases List.mem_append.1 hx with hx | hx
      · exact h.sub x hx
      · simp at hx; subst hx; exact .inr (List.mem_map_of_mem hu)
    · rcases List.mem_append.1 hx with hx | hx
      · exact h.all x hx
      · simp at hx; subst hx; exact hP hc.1
  · exact h
theorem seeTo_ok {up : Bool} {us : List Us} {b cur : ByteArray} {P : ByteArray → Prop} {f : List ByteArray} (h : FoundOk up us b P f) (hP : ∀ u ∈ us, uA up u = cur → P (uB up u)) : ∀ k, FoundOk up us b P (seeTo up us cur f k)
  | 0 => by rw [seeTo_zero]; exact h
  | k + 1 => by
    cases hk : us[k]? with
    | some u => rw [seeTo_succ hk]; exact see_ok (seeTo_ok h hP k) (List.mem_of_getElem? hk) (hP u (List.mem_of_getElem? hk))
    | none =>
      have : seeTo up us cur f (k + 1) = seeTo up us cur f k := by
        have hk := List.getElem?_eq_none_iff.1 hk
        simp [seeTo, List.take_of_length_le hk, List.take_of_length_le (Nat.le_succ_of_le hk)]
      rw [this]; exact seeTo_ok h hP k
theorem seeTo_all {up : Bool} {us : List Us} {cur : ByteArray} {f : List ByteArray} : ∀ k, ∀ u ∈ us.take k, uA up u = cur → uB up u ∈ seeTo up us cur f k
  | 0, u, h, _ => by simp at h
  | k + 1, u, h, hc => by
    cases hk : us[k]? with
    | some v =>
      rw [seeTo_succ hk]
      obtain ⟨hl, rfl⟩ := List.getElem?_eq_some_iff.1 hk
      rw [List.take_succ_eq_append_getElem hl] at h
      rcases List.mem_append.1 h with h | h
      · exact (see_pre _ _ _ _).subset (seeTo_all k u h hc)
      · simp at h; subst h
        by_cases hm : uB up us[k] ∈ seeTo up us cur f k
        · rw [see_old hm]; exact hm
        · rw [see_hit hc hm]; simp
    | none =>
      have hk := List.getElem?_eq_none_iff.1 hk
      have e : seeTo up us cur f (k + 1) = seeTo up us cur f k := by simp [seeTo, List.take_of_length_le hk, List.take_of_length_le (Nat.le_succ_of_le hk)]
      rw [e]; refine seeTo_all k u ?_ hc
      rw [List.take_of_length_le (Nat.le_succ_of_le hk)] at h; rw [List.take_of_length_le hk]; exact h
/-- The ways. -/
inductive Way (up : Bool) (us : List Us) (b : ByteArray) : ByteArray → Prop
  | start : Way up us b b
  | step {x : ByteArray} {u : Us} : Way up us b x → u ∈ us → uA up u = x → Way up us b (uB up u)
theorem found_ok (up : Bool) (us : List Us) (b : ByteArray) : ∀ i, FoundOk up us b (Way up us b) (found up us b i)
  | 0 => ⟨by simp [found], fun x hx => by simp [found] at hx; exact .inl hx, fun x hx => by simp [found] at hx; subst hx; exact .start⟩
  | i + 1 => by
    unfold found; split
    · rename_i cur h
      exact seeTo_ok (found_ok up us b i) (fun u hu hc => .step ((found_ok up us b i).all cur (List.mem_of_getElem? h)) hu hc) _
    · exact found_ok up us b i
theorem found_step {up : Bool} {us : List Us} {b cur : ByteArray} {i : Nat} (h : (found up us b i)[i]? = some cur) : found up us b (i + 1) = seeTo up us cur (found up us b i) us.length := by
  rw [found, h]
theorem found_stop {up : Bool} {us : List Us} {b : ByteArray} {i : Nat} (h : (found up us b i).length ≤ i) : ∀ k, i ≤ k → found up us b k = found up us b i := by
  intro k hk
  induction k with
  | zero => obtain rfl : i = 0 := by omega
            rfl
  | succ k ih =>
    by_cases e : i = k + 1
    · rw [e]
    · have := ih (by omega)
      rw [found, this, List.getElem?_eq_none (by omega)]
theorem found_pre (up : Bool) (us : List Us) (b : ByteArray) {i k : Nat} (h : i ≤ k) : found up us b i <+: found up us b k := by
  induction k with
  | zero => obtain rfl : i = 0 := by omega
            exact List.prefix_refl _
  | succ k ih =>
    by_cases e : i = k + 1
    · rw [e]; exact List.prefix_refl _
    · refine (ih (by omega)).trans ?_
      rw [found.eq_2]; split
      · exact seeTo_pre _ _ _ _ _
      · exact List.prefix_refl _
theorem nodup_le {α : Type} [DecidableEq α] : ∀ {l m : List α}, l.Nodup → (∀ x ∈ l, x ∈ m) → l.length ≤ m.length
  | [], _, _, _ => Nat.zero_le _
  | x :: l, m, h, hs => by
    obtain ⟨h1, h2⟩ := List.nodup_cons.1 h
    have hx := hs x (by simp)
    have := nodup_le (l := l) (m := m.erase x) h2 fun y hy => (List.mem_erase_of_ne (fun e => h1 (by rw [← e]; exact hy))).2 (hs y (by simp [hy]))
    rw [List.length_erase_of_mem hx] at this
    have := List.length_pos_of_mem hx
    simp only [List.length_cons]; omega
theorem found_len (up : Bool) (us : List Us) (b : ByteArray) (i : Nat) : 1 ≤ (found up us b i).length ∧ (found up us b i).length ≤ us.length + 1 := by
  have h := found_ok up us b i
  refine ⟨(found_pre up us b (Nat.zero_le i)).length_le, ?_⟩
  have := nodup_le (m := b :: us.map (uB up)) h.nodup (fun x hx => by rcases h.sub x hx with e | e <;> simp [e])
  simpa using this
theorem found_end {up : Bool} {us : List Us} {b : ByteArray} {i : Nat} (h : (found up us b i).length ≤ i) (hi : i ≤ us.length + 1) : reachL up us b = found up us b i := found_stop h _ hi
theorem reach_len (up : Bool) (us : List Us) (b : ByteArray) : 1 ≤ (reachL up us b).length ∧ (reachL up us b).length ≤ us.length + 1 := found_len _ _ _ _
theorem reach_nodup (up : Bool) (us : List Us) (b : ByteArray) : (reachL up us b).Nodup := (found_ok _ _ _ _).nodup
theorem reach_head (up : Bool) (us : List Us) (b : ByteArray) : (reachL up us b)[0]? = some b := by
  obtain ⟨t, e⟩ := found_pre up us b (Nat.zero_le (us.length + 1))
  show (found up us b (us.length + 1))[0]? = some b
  rw [← e]; simp [found]
theorem reach_cons (up : Bool) (us : List Us) (b : ByteArray) : reachL up us b = b :: (reachL up us b).drop 1 := by
  have h := reach_head up us b
  cases e : reachL up us b with
  | nil => rw [e] at h; cases h
  | cons x r => rw [e] at h; simp at h; subst h; simp
theorem reach_way {up : Bool} {us : List Us} {b x : ByteArray} : x ∈ reachL up us b ↔ Way up us b x := by
  refine ⟨fun h => (found_ok _ _ _ _).all x h, fun h => ?_⟩
  induction h with
  | start => rw [reach_cons]; simp
  | @step y u _ hu hc ih =>
    obtain ⟨i, hi, e⟩ := List.getElem_of_mem ih
    have hn := (reach_len up us b).2
    -- the end is reached before the purse is empty, or i is still at hand
    by_cases hs : (found up us b i).length ≤ i
    · have e2 := found_stop hs (us.length + 1) (by omega)
      have : (reachL up us b).length ≤ i := by unfold reachL; rw [e2]; exact hs
      omega
    · have hcur : (found up us b i)[i]? = some y := by
        obtain ⟨t, e2⟩ := found_pre up us b (show i ≤ us.length + 1 by omega)
        have : (reachL up us b)[i]? = some y := by rw [List.getElem?_eq_getElem hi, e]
        unfold reachL at this
        rw [← e2, List.getElem?_append_left (by omega)] at this
        exact this
      by_cases hi2 : i ≤ us.length
      · refine (found_pre up us b (show i + 1 ≤ us.length + 1 by omega)).subset ?_
        rw [found_step hcur]
        exact seeTo_all _ u (by rw [List.take_of_length_le (Nat.le_refl _)]; exact hu) hc
      · omega
theorem way_trans {up : Bool} {us : List Us} {a b c : ByteArray} (h : Way up us a b) (k : Way up us b c) : Way up us a c := by
  induction k with
  | start => exact h
  | step _ hu hc ih => exact .step ih hu hc
theorem way_back {up : Bool} {us : List Us} {a b : ByteArray} (h : Way up us a b) : Way (!up) us b a := by
  induction h with
  | start => exact .start
  | @step x u _ hu hc ih =>
    have e : uA (!up) u = uB up u ∧ uB (!up) u = uA up u := by cases up <;> exact ⟨rfl, rfl⟩
    have h1 : Way (!up) us (uB up u) (uB (!up) u) := .step .start hu e.1
    rw [e.2, hc] at h1
    exact way_trans h1 ih
theorem reach_turn {us : List Us} {a b : ByteArray} : b ∈ reachL false us a ↔ a ∈ reachL true us b := by
  rw [reach_way, reach_way]; exact ⟨way_back, way_back⟩
theorem reach_sub {up : Bool} {us : List Us} {b x : ByteArray} (h : x ∈ reachL up us b) : x = b ∨ x ∈ us.map (uB up) := (found_ok _ _ _ _).sub x h

/-! ### right uses -/
def useOk (u : Us) : Bool := isCode u.frm && (isCode u.into && (decide (¬ u.frm = u.into) && inB u.q 1 100000))
def noRound (us : List Us) (u : Us) : Bool := !hasB u.frm (reachL false us u.into)
def areUses (us : List Us) : Bool := us.all useOk && (decide (us.length ≤ 24) && us.all (noRound us))
theorem uses_bad {us : List Us} {k : Nat} {u : Us} (h : us[k]? = some u) (hb : useOk u = false) : areUses us = false := by
  have : us.all useOk = false := List.all_eq_false.2 ⟨u, List.mem_of_getElem? h, by simp [hb]⟩
  simp [areUses, this]
theorem uses_long {us : List Us} (h : ¬ us.length ≤ 24) : areUses us = false := by simp [areUses, h]
theorem uses_round {us : List Us} {k : Nat} {u : Us} (h : us[k]? = some u) (hb : u.frm ∈ reachL false us u.into) : areUses us = false := by
  have : us.all (noRound us) = false := List.all_eq_false.2 ⟨u, List.mem_of_getElem? h, by simp [noRound, hasB_iff.2 hb]⟩
  simp [areUses, this]
theorem uses_good {us : List Us} (h1 : ∀ (k : Nat) (u : Us), us[k]? = some u → useOk u = true) (h2 : us.length ≤ 24) (h3 : ∀ (k : Nat) (u : Us), us[k]? = some u → u.frm ∉ reachL false us u.into) : areUses us = true := by
  have a : us.all useOk = true := List.all_eq_true.2 fun u hu => by
    obtain ⟨k, hk, rfl⟩ := List.getElem_of_mem hu
    exact h1 k _ (List.getElem?_eq_getElem hk)
  have b : us.all (noRound us) = true := List.all_eq_true.2 fun u hu => by
    obtain ⟨k, hk, rfl⟩ := List.getElem_of_mem hu
    have := h3 k _ (List.getElem?_eq_getElem hk)
    simp [noRound, hasB_no.2 this]
  simp [areUses, a, b, h2]
theorem uses_true {us : List Us} (h : areUses us = true) : (∀ u ∈ us, useOk u = true) ∧ us.length ≤ 24 := by
  simp only [areUses, Bool.and_eq_true, decide_eq_true_eq, List.all_eq_true] at h
  exact ⟨h.1, h.2.1⟩
theorem useOk_ne {u : Us} (h : useOk u = true) : ¬ u.frm = u.into := by
  simp only [useOk, Bool.and_eq_true, decide_eq_true_eq] at h; exact h.2.2.1
/-- The start is none of the finds behind it. -/
theorem reach_drop {us : List Us} {u : Us} (h : ¬ u.frm = u.into) (up : Bool) : u.frm ∈ (reachL up us u.into).drop 1 ↔ u.frm ∈ reachL up us u.into := by
  conv => rhs; rw [reach_cons]
  simp [h]

/-! ### texts in order, each once -/
def insO : List ByteArray → ByteArray → List ByteArray
  | [], s => [s]
  | x :: r, s => if txtLess x s then x :: insO r s else if x = s then x :: r else s :: x :: r
def sortO (l : List ByteArray) : List ByteArray := l.foldl insO []
theorem insO_mem : ∀ {l : List ByteArray} {s x : ByteArray}, x ∈ insO l s ↔ x = s ∨ x ∈ l
  | [], s, x => by simp [insO]
  | y :: l, s, x => by
    unfold insO; split
    · rw [List.mem_cons, insO_mem (l := l), List.mem_cons]
      exact ⟨fun h => by rcases h with h | h | h <;> simp [h], fun h => by rcases h with h | h | h <;> simp [h]⟩
    · split
      · rename_i e; subst e
        exact ⟨fun h => .inr h, fun h => by rcases h with h | h <;> simp [h]⟩
      · simp
theorem insO_rising : ∀ {l : List ByteArray} {s : ByteArray}, Rising id l → Rising id (insO l s)
  | [], s, _ => by simp [insO, Rising]
  | y :: l, s, h => by
    obtain ⟨h1, h2⟩ := List.pairwise_cons.1 h
    unfold insO; split
    · rename_i hl
      refine List.pairwise_cons.2 ⟨fun x hx => ?_, insO_rising h2⟩
      rcases insO_mem.1 hx with e | e
      · subst e; exact hl
      · exact h1 x e
    · rename_i hl
      split
      · exact h
      · rename_i hne
        have hs : txtLess s y = true := by
          cases k : txtLess s y
          · exact absurd (txt_tri (by simpa using hl) k) hne
          · rfl
        refine List.pairwise_cons.2 ⟨fun x hx => ?_, h⟩
        rcases List.mem_cons.1 hx with e | e
        · subst e; exact hs
        · exact txt_trans hs (h1 x e)
theorem sortO_both (l : List ByteArray) : Rising id (sortO l) ∧ ∀ x, x ∈ sortO l ↔ x ∈ l := by
  have key : ∀ (l acc : List ByteArray), Rising id acc → Rising id (l.foldl insO acc) ∧ ∀ x, x ∈ l.foldl insO acc ↔ x ∈ acc ∨ x ∈ l := by
    intro l
    induction l with
    | nil => intro acc h; exact ⟨h, fun x => by simp⟩
    | cons y l ih =>
      intro acc h
      obtain ⟨a, b⟩ := ih (insO acc y) (insO_rising h)
      refine ⟨a, fun x => ?_⟩
      rw [List.foldl_cons, b, insO_mem, List.mem_cons]
      exact ⟨fun h => by rcases h with (h | h) | h <;> simp [h], fun h => by rcases h with h | h | h <;> simp [h]⟩
  obtain ⟨a, b⟩ := key l [] List.Pairwise.nil
  exact ⟨a, fun x => by rw [sortO, b]; simp⟩
theorem sortO_rising (l : List ByteArray) : Rising id (sortO l) := (sortO_both l).1
theorem sortO_mem {l : List ByteArray} {x : ByteArray} : x ∈ sortO l ↔ x ∈ l := (sortO_both l).2 x
theorem rising_nodup {l : List ByteArray} (h : Rising id l) : l.Nodup := h.imp fun hab => txt_ne hab
theorem sortO_len (l : List ByteArray) : (sortO l).length ≤ l.length := nodup_le (rising_nodup (sortO_rising l)) fun _ hx => sortO_mem.1 hx
theorem sortO_same {l m : List ByteArray} (h : ∀ x, x ∈ l ↔ x ∈ m) : sortO l = sortO m := rising_ext (sortO_rising l) (sortO_rising m) fun x => by rw [sortO_mem, sortO_mem, h]
theorem sortO_self {l : List ByteArray} (h : Rising id l) : sortO l = l := rising_ext (sortO_rising l) h fun _ => sortO_mem
theorem sortO_snoc (l : List ByteArray) (s : ByteArray) : sortO (l ++ [s]) = insO (sortO l) s := by simp [sortO, List.foldl_append]
theorem sortO_take {l : List ByteArray} {k : Nat} {s : ByteArray} (h : l[k]? = some s) : sortO (l.take (k + 1)) = insO (sortO (l.take k)) s := by
  obtain ⟨hk, rfl⟩ := List.getElem?_eq_some_iff.1 h
  rw [List.take_succ_eq_append_getElem hk, sortO_snoc]
theorem insO_hit : ∀ {l : List ByteArray} {s : ByteArray} {k : Nat}, (∀ (j : Nat) (x : ByteArray), j < k → l[j]? = some x → txtLess x s = true) → l[k]? = some s → insO l s = l
  | [], _, _, _, h => by simp at h
  | y :: l, s, 0, _, h => by simp at h; subst h; simp [insO, txt_irrefl]
  | y :: l, s, k + 1, hb, h => by
    have h0 := hb 0 y (by omega) rfl
    rw [insO, if_pos h0, insO_hit (k := k) (fun j x hj hx => hb (j + 1) x (by omega) (by simpa using hx)) (by simpa using h)]
theorem insO_at : ∀ {l : List ByteArray} {s : ByteArray} {k : Nat} {y : ByteArray}, (∀ (j : Nat) (x : ByteArray), j < k → l[j]? = some x → txtLess x s = true) → l[k]? = some y → txtLess y s = false → ¬ y = s → insO l s = l.take k ++ s :: l.drop k
  | [], _, _, _, _, h, _, _ => by simp at h
  | y :: l, s, 0, z, _, h, h1, h2 => by simp at h; subst h; simp [insO, h1, h2]
  | y :: l, s, k + 1, z, hb, h, h1, h2 => by
    have h0 := hb 0 y (by omega) rfl
    rw [insO, if_pos h0, insO_at (k := k) (fun j x hj hx => hb (j + 1) x (by omega) (by simpa using hx)) (by simpa using h) h1 h2]
    simp
theorem insO_end : ∀ {l : List ByteArray} {s : ByteArray}, (∀ (j : Nat) (x : ByteArray), l[j]? = some x → txtLess x s = true) → insO l s = l ++ [s]
  | [], _, _ => rfl
  | y :: l, s, hb => by
    have h0 := hb 0 y rfl
    rw [insO, if_pos h0, insO_end (fun j x hx => hb (j + 1) x (by simpa using hx))]
    simp

/-! ### what the functions give -/
def restL (up : Bool) (us : List Us) (b : ByteArray) : List ByteArray := (reachL up us b).drop 1
theorem reach_rest (up : Bool) (us : List Us) (b : ByteArray) : reachL up us b = b :: restL up us b := reach_cons up us b
theorem rest_nodup (up : Bool) (us : List Us) (b : ByteArray) : (restL up us b).Nodup := by
  have := reach_nodup up us b
  rw [reach_rest] at this; exact (List.nodup_cons.1 this).2
theorem rest_len (up : Bool) (us : List Us) (b : ByteArray) : (restL up us b).length + 1 = (reachL up us b).length := by rw [reach_rest]; rfl
def traceL (up : Bool) (us : List Us) (b : ByteArray) : List ByteArray := if areUses us then sortO (restL up us b) else []
theorem trace_len (up : Bool) (us : List Us) (b : ByteArray) : (traceL up us b).length ≤ us.length := by
  unfold traceL; split
  · have h1 := sortO_len (restL up us b)
    have h2 := (reach_len up us b).2
    have h3 := rest_len up us b
    omega
  · simp
end Go.Proofs.Ytaldlinekipblaa
