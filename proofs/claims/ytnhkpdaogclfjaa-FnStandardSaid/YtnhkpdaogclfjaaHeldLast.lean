/- A region that draws its order: its last operation, which waits for all the others, cut off. So a condition held through the region need not hold behind it. No condition. -/
import Derived.Deep.RegionHeld3
namespace Go.Proofs.Ytnhkpdaogclfjaa
open Go

section
variable {P : Program} {ops : Array Oper} {Q : Exit → Act → World → Prop} {md : Region.Mode} {S : World → Prop} {N : Nat}

/-- The post ahead of the last operation. -/
def CutPost (P : Program) (ops : Array Oper) (Q : Exit → Act → World → Prop) (N : Nat) : Exit → Act → World → Prop
  | .normal, a, w => wpOp P ops Q N (Q .normal) a w
  | e, a, w => Q e a w

/-- Each edge goes down, each guard lies below the last operation, and each operation but the last is waited for by a later one. -/
structure CutAt (md : Region.Mode) (ops : Array Oper) (N : Nat) : Prop where
  size : ops.size = N + 1
  down : ∀ (i : Nat) (o : Oper), ops[i]? = some o → ∀ e ∈ o.after, Region.binds md e = true → e.on < i
  guards : ∀ (i : Nat) (o : Oper) (g : Nat) (b : Bool), ops[i]? = some o → o.guard = some (g, b) → g < N
  used : ∀ i, i < N → ∃ (j : Nat) (o : Oper), i < j ∧ ops[j]? = some o ∧ ∃ e ∈ o.after, Region.binds md e = true ∧ e.on = i

def ShutL (md : Region.Mode) (ops : Array Oper) (listed : Array Bool) : Prop :=
  ∀ (i : Nat) (o : Oper), ops[i]? = some o → listed.getD i false = true → ∀ e ∈ o.after, Region.binds md e = true → listed.getD e.on false = true

theorem CutPost.panic {d : Option Tmp} {v : Value} (h : ∀ (c : _) (a : Act) (w : World), Q (.panic c) (a.put d v) w → Q (.panic c) a w) : ∀ (c : _) (a : Act) (w : World), CutPost P ops Q N (.panic c) (a.put d v) w → CutPost P ops Q N (.panic c) a w := h
theorem CutPost.step {o : Oper} {a : Act} {w : World} (ho : ops[N]? = some o)
    (h : ∀ K : Act → World → Prop, (∀ a w, Q .normal a w → K a w) → if Region.wanted o (yielded ops a.tmps) = true then Oper.wp P o a w K Q else K (a.put o.dst undef) w) : CutPost P ops Q N .normal a w := wpOp_step ho h
theorem pop_get {i : Nat} (h : i + 1 < ops.size) : ops.pop[i]? = ops[i]? := by rw [Array.getElem?_pop, if_pos (by omega)]
theorem push_getD {listed : Array Bool} {i : Nat} {b d : Bool} (h : i < listed.size) : (listed.push b).getD i d = listed.getD i d := by
  simp [Array.getD_eq_getD_getElem?, Array.getElem?_push, Nat.ne_of_lt h]
theorem getD_any {listed : Array Bool} {i : Nat} (h : i < listed.size) (d d' : Bool) : listed.getD i d = listed.getD i d' := by simp [h]

theorem ready_cut (hc : CutAt md ops N) {listed : Array Bool} (hs : listed.size = N) {i : Nat} (hi : i < N) : i ∈ Region.ready md ops (listed.push false) ↔ i ∈ Region.ready md ops.pop listed := by
  rw [mem_ready, mem_ready, pop_get (by rw [hc.size]; omega), push_getD (by omega)]
  refine and_congr_right fun _ => exists_congr fun o => and_congr_right fun ho => forall_congr' fun e => forall_congr' fun he => forall_congr' fun hb => ?_
  rw [push_getD (by have := hc.down i o ho e he hb; omega)]

theorem wpOp_cut (hc : CutAt md ops N) {i : Nat} (hi : i < N) {K : Act → World → Prop} {a : Act} {w : World} (h : wpOp P ops.pop (CutPost P ops Q N) i K a w) : wpOp P ops Q i K a w := by
  unfold wpOp at *
  rw [pop_get (by rw [hc.size]; omega)] at h
  cases ho : ops[i]? with
  | none => rw [ho] at h; exact h
  | some o =>
    rw [ho] at h
    simp only at h ⊢
    have hw : Region.wanted o (yielded ops.pop a.tmps) = Region.wanted o (yielded ops a.tmps) := by
      unfold Region.wanted
      cases hg : o.guard with
      | none => rfl
      | some g =>
        obtain ⟨g, b⟩ := g
        have := hc.guards i o g b ho hg
        simp only [yielded]
        rw [pop_get (by rw [hc.size]; omega)]
    rw [hw] at h
    split
    · rename_i hw'
      rw [if_pos hw'] at h
      rcases h with h | ⟨h1, h2⟩
      · refine .inl ?_
        unfold Oper.wp at *
        generalize (execOp a.eval o).run P w = r at *
        cases r with
        | ok n w' => cases n <;> exact h
        | halt x w' => cases x <;> exact h
      · exact .inr ⟨h1, h2⟩
    · rename_i hw'
      rw [if_neg hw'] at h
      exact h

theorem wpAny_last (hc : CutAt md ops N) {listed : Array Bool} (hs : listed.size = N) (hr : Region.ready md ops.pop listed = []) {a : Act} {w : World} (h : wpOp P ops Q N (Q .normal) a w) (fuel : Nat) :
    wpAny P md ops Q (fuel + 1) (listed.push false) a w := by
  have hz := hc.size
  have all : ∀ i, i < N → listed.getD i false = true := by
    intro i
    induction i using Nat.strongRecOn with
    | _ i ih =>
      intro hi
      cases hg : listed.getD i false with
      | true => rfl
      | false =>
        have : i ∈ Region.ready md ops.pop listed := by
          rw [mem_ready]
          have hop : ops.pop[i]? = some ops[i] := by rw [pop_get (by omega)]; exact Array.getElem?_eq_getElem _
          refine ⟨by rw [getD_any (by omega) true false]; exact hg, _, hop, fun e he hb => ?_⟩
          have := hc.down i _ (Array.getElem?_eq_getElem _) e he hb
          exact ih _ this (by omega)
        rw [hr] at this
        cases this
  have hN : (listed.push false).getD N true = false := by simp [Array.getD_eq_getD_getElem?, ← hs]
  have hoN : ops[N]? = some ops[N] := Array.getElem?_eq_getElem _
  have hin : N ∈ Region.ready md ops (listed.push false) := mem_ready.2 ⟨hN, _, hoN, fun e he hb => by
    have := hc.down N _ hoN e he hb
    rw [push_getD (by omega)]
    exact all _ this⟩
  refine ⟨fun h0 => (by rw [h0] at hin; cases hin), fun i hi => ?_⟩
  obtain ⟨h1, o, ho, _⟩ := mem_ready.1 hi
  have hlt := (Array.getElem?_eq_some_iff.1 ho).1
  have hiN : i = N := by
    rcases Nat.lt_or_ge i N with hl | hl
    · rw [push_getD (by omega), getD_any (by omega) true false, all i hl] at h1
      cases h1
    · omega
  subst hiN
  refine wpOp_mono (fun a' w' hq => wpAny_done ?_ hq fuel) h
  refine List.eq_nil_iff_forall_not_mem.2 fun j hj => ?_
  obtain ⟨h2, o', ho', _⟩ := mem_ready.1 hj
  have hlt' := (Array.getElem?_eq_some_iff.1 ho').1
  by_cases hji : i = j
  · subst hji
    simp [← hs] at h2
  · rw [getD_set_ne true hji, push_getD (by omega), getD_any (by omega) true false, all j (by omega)] at h2
    cases h2

theorem wpAny_cut (hc : CutAt md ops N) : ∀ (fuel : Nat) (listed : Array Bool) (a : Act) (w : World), listed.size = N → ShutL md ops listed → wpAny P md ops.pop (CutPost P ops Q N) fuel listed a w → wpAny P md ops Q (fuel + 1) (listed.push false) a w := by
  have hz := hc.size
  intro fuel
  induction fuel with
  | zero => exact fun listed a w hs _ h => wpAny_last hc hs h.1 h.2 0
  | succ fuel ih =>
    intro listed a w hs hl h
    by_cases hr : Region.ready md ops.pop listed = []
    · exact wpAny_last hc hs hr (h.1 hr) _
    · obtain ⟨i0, hi0⟩ := List.exists_mem_of_ne_nil _ hr
      obtain ⟨g0, o0, ho0, _⟩ := mem_ready.1 hi0
      have hlt0 : i0 < N := by have := (Array.getElem?_eq_some_iff.1 ho0).1; simp at this; omega
      refine ⟨fun h0 => ?_, fun i hi => ?_⟩
      · have := (ready_cut hc hs hlt0).2 hi0
        rw [h0] at this
        cases this
      · obtain ⟨g1, o, ho, hd⟩ := mem_ready.1 hi
        have hlt := (Array.getElem?_eq_some_iff.1 ho).1
        rcases Nat.lt_or_ge i N with hiN | hiN
        · have hip := (ready_cut hc hs hiN).1 hi
          refine wpOp_mono (fun a' w' h' => ?_) (wpOp_cut hc hiN (h.2 i hip))
          have he : (listed.push false).setIfInBounds i true = (listed.setIfInBounds i true).push false := by
            apply Array.ext_getElem?
            intro k
            rw [Array.getElem?_setIfInBounds, Array.getElem?_push, Array.getElem?_push, Array.getElem?_setIfInBounds]
            simp only [Array.size_push, Array.size_setIfInBounds]
            by_cases h1 : i = k
            · subst h1
              have h2 : i ≠ listed.size := by omega
              have h3 : i < listed.size := by omega
              have h4 : i < listed.size + 1 := by omega
              rw [if_pos rfl, if_pos h4, if_neg h2, if_pos rfl, if_pos h3]
            · simp [h1]
          rw [he]
          refine ih _ a' w' (by simpa using hs) ?_ h'
          intro k ok hok hk e hee hb
          by_cases hki : i = k
          · subst hki
            rw [ho] at hok
            obtain rfl := Option.some.inj hok
            have := hd e hee hb
            rw [push_getD (by have := hc.down i o ho e hee hb; omega)] at this
            exact getD_set_true this
          · rw [getD_set_ne false hki] at hk
            exact getD_set_true (hl k ok hok hk e hee hb)
        · have hiN' : i = N := by omega
          subst hiN'
          exfalso
          have all : ∀ d k, k + d = i → k < i → listed.getD k false = true := by
            intro d
            induction d using Nat.strongRecOn with
            | _ d ihd =>
              intro k hk hki
              obtain ⟨j, oj, hj, hoj, e, hee, hb, hon⟩ := hc.used k hki
              have hjlt := (Array.getElem?_eq_some_iff.1 hoj).1
              by_cases hji : j = i
              · subst hji
                rw [ho] at hoj
                obtain rfl := Option.some.inj hoj
                have := hd e hee hb
                rw [hon, push_getD (by omega)] at this
                exact this
              · have := hl j oj hoj (ihd (i - j) (by omega) j (by omega) (by omega)) e hee hb
                rw [hon] at this
                exact this
          rw [getD_any (by omega) true false, all (i - i0) i0 (by omega) hlt0] at g0
          cases g0
end
def cutB (md : Region.Mode) (ops : Array Oper) (N : Nat) : Bool :=
  ops.size == N + 1 && (List.range (N + 1)).all fun i => match ops[i]? with
    | some o => o.after.all (fun e => !Region.binds md e || decide (e.on < i)) && (match o.guard with | none => true | some (g, _) => decide (g < N)) &&
        (i == N || (List.range (N + 1)).any fun j => decide (i < j) && match ops[j]? with | some oj => oj.after.any (fun e => Region.binds md e && e.on == i) | none => false)
    | none => true
theorem cutB_spec {md : Region.Mode} {ops : Array Oper} {N : Nat} (h : cutB md ops N = true) : CutAt md ops N := by
  unfold cutB at h
  simp only [Bool.and_eq_true, beq_iff_eq, List.all_eq_true, List.mem_range] at h
  obtain ⟨hs, h⟩ := h
  have lt : ∀ (i : Nat) (o : Oper), ops[i]? = some o → i < N + 1 := fun i o ho => by have := (Array.getElem?_eq_some_iff.1 ho).1; omega
  refine ⟨hs, fun i o ho e he hb => ?_, fun i o g b ho hg => ?_, fun i hi => ?_⟩
  · have := h i (lt i o ho)
    rw [ho] at this
    simp only [Bool.and_eq_true] at this
    have := Array.all_eq_true_iff_forall_mem.1 this.1.1 e he
    simpa [hb] using this
  · have := h i (lt i o ho)
    rw [ho] at this
    simp only [Bool.and_eq_true, hg] at this
    simpa using this.1.2
  · have := h i (by omega)
    rw [Array.getElem?_eq_getElem (by omega)] at this
    simp only [Bool.and_eq_true] at this
    have := this.2
    rw [Bool.or_eq_true, beq_iff_eq] at this
    have := this.resolve_left (by omega)
    obtain ⟨j, hj, hx⟩ := List.any_eq_true.1 this
    rw [Bool.and_eq_true, decide_eq_true_eq] at hx
    obtain ⟨hij, hx⟩ := hx
    cases hoj : ops[j]? with
    | none => rw [hoj] at hx; cases hx
    | some oj =>
      rw [hoj] at hx
      obtain ⟨e, he, hb⟩ := Array.any_eq_true'.1 hx
      rw [Bool.and_eq_true, beq_iff_eq] at hb
      exact ⟨j, oj, hij, hoj, e, he, hb.1, hb.2⟩

/-- The beginning: the walk goes through the region without its last operation; behind it the last one is run. -/
theorem wp_region_cut {P : Program} {ops ops' : Array Oper} {Q : Exit → Act → World → Prop} {S : World → Prop} {id : Nat} {a : Act} {w : World} (N : Nat) (hm : P.follows .mixedOrders = true) (hc : cutB .any ops N = true) (hp : ops.pop = ops') (hS : S w.drew)
    (h : S w.drew → wpAnyH P .any ops' (CutPost P ops Q N) S N (Array.replicate N false) a w.drew) : (Code.region id ops true).wp P Q a w := by
  have hc := cutB_spec hc
  refine wp_region_any hm ?_
  rw [hc.size, show Array.replicate (N + 1) false = (Array.replicate N false).push false from Array.replicate_succ]
  subst hp
  refine wpAny_cut hc N _ a _ (by simp) ?_ (wpAny_of_held _ _ _ _ (h hS))
  intro i o ho hi
  simp [Array.getD_eq_getD_getElem?, Array.getElem?_replicate] at hi
  split at hi <;> simp at hi
end Go.Proofs.Ytnhkpdaogclfjaa
