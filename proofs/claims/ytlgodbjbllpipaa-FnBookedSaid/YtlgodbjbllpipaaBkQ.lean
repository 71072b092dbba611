/- Books that a call owns: one shelf turned, one shelf put in, the documents turned; the box that holds them; what stays. No condition. -/
import Derived.Test.YtlgodbjbllpipaaCopyBk
import Derived.Test.YtlgodbjbllpipaaSub
namespace Go.Proofs.Ytlgodbjbllpipaa
open Go.ChangeShapes Go.WideShapes Go.ChangeAt Go.RowKit

/-! ### what stays: boxes of events, and boxes of books but one -/
def Keeps (q : Option Nat) (w w' : World) : Prop := ∀ (k : Nat) (cs : Array Value) (t : TypeId), (t = 44 ∨ (t = 31 ∧ some k ≠ q)) → w.heap[k]? = some (.cells cs t (0, 0)) → w'.heap[k]? = some (.cells cs t (0, 0))
section
variable {q : Option Nat} {w w' w'' : World}
theorem Keeps.refl (q : Option Nat) (w : World) : Keeps q w w := fun _ _ _ _ h => h
theorem Keeps.trans (h : Keeps q w w') (k : Keeps q w' w'') : Keeps q w w'' := fun i cs t ht hi => k i cs t ht (h i cs t ht hi)
theorem Keeps.below (hb : Below w.heap.size w w') : Keeps q w w' := fun _ _ _ _ h => blk_keep hb h
theorem Keeps.grown {base size n : Nat} {e : TypeId} {v : Value} {xs : List Value} (ho : w.ownsRow base e size v n xs) (hg : w.grownBy w' v.ownBlock) (h1 : e ≠ 44) (h2 : e ≠ 31) : Keeps q w w' := by
  intro k cs t ht hk
  rw [hg.block k (Array.getElem?_eq_some_iff.1 hk).1 ?_]
  · exact hk
  · intro he
    rcases ho.2 with ⟨hv, _⟩ | ⟨g, cap, cur, rfl, _, hgg, _⟩
    · rw [hv] at he; simp [Value.ownBlock] at he
    · simp only [Value.ownBlock, Option.some.injEq] at he
      subst he
      rw [hk] at hgg
      injection hgg with hgg
      injection hgg with _ he2 _
      rcases ht with ht | ht
      · exact h1 (he2.symm.trans ht)
      · exact h2 (he2.symm.trans ht.1)
theorem Keeps.set {p : Addr} {u : Value} {cs : Array Value} {t : TypeId} (hp : w.heap[p.block]? = some (.cells cs t (0, 0))) (h1 : t ≠ 44) (h2 : t ≠ 31) : Keeps q w (w.setCell p u) := by
  intro k cs' t' ht hk
  by_cases hkp : k = p.block
  · subst hkp
    rw [hp] at hk
    injection hk with hk
    injection hk with _ he2 _
    rcases ht with ht | ht
    · exact absurd (he2.trans ht) h1
    · exact absurd (he2.trans ht.1) h2
  · rw [Below.heap_setCell _ _ _ _ hkp]; exact hk
theorem Keeps.setq {b : Nat} {j : Nat} {u : Value} {cs : Array Value} (hp : w.heap[b]? = some (.cells cs 31 (0, 0))) : Keeps (some b) w (w.setCell ⟨b, j, none⟩ u) := by
  intro k cs' t' ht hk
  by_cases hkp : k = b
  · subst hkp
    rw [hp] at hk
    injection hk with hk
    injection hk with _ he2 _
    rcases ht with ht | ht
    · rw [ht] at he2; exact absurd he2 (by decide)
    · exact absurd rfl ht.2
  · rw [Below.heap_setCell _ _ _ _ hkp]; exact hk
theorem Keeps.one (h : Keeps none w w') (b : Nat) : Keeps (some b) w w' := fun k cs t ht hk => h k cs t (ht.imp id fun x => ⟨x.1, by simp⟩) hk
end

/-! ### a cell that no row owns -/
theorem own_ne_type {w : World} {base size n q : Nat} {e t : TypeId} {v : Value} {xs : List Value} {cs : Array Value} (ho : w.ownsRow base e size v n xs) (hq : w.heap[q]? = some (.cells cs t (0, 0))) (he : e ≠ t) : v.ownBlock ≠ some q := by
  intro hv
  rcases ho.2 with ⟨hv', _⟩ | ⟨g, cap, cur, rfl, _, hgg, _⟩
  · rw [hv'] at hv; simp [Value.ownBlock] at hv
  · simp only [Value.ownBlock, Option.some.injEq] at hv
    subst hv
    rw [hq] at hgg
    injection hgg with hgg
    injection hgg with _ he2 _
    exact he he2.symm
theorem Owns.setq {w : World} {lo hi q j : Nat} {rs : List Row} {t : TypeId} {cs : Array Value} {u : Value} (h : Owns w lo hi rs) (hq : w.heap[q]? = some (.cells cs t (0, 0))) (ht : ∀ r ∈ rs, r.ty ≠ t) : Owns (w.setCell ⟨q, j, none⟩ u) lo hi rs :=
  ⟨fun r hr => ⟨own_grown (h.1 r hr).1 (grown_set w ⟨q, j, none⟩ u) (.inr (own_ne_type (h.1 r hr).1 hq (ht r hr))), (h.1 r hr).2⟩, h.2⟩
theorem zip_ty {α β : Type} {f : α → β → Row} {t : TypeId} (hf : ∀ a b, (f a b).ty = t) : ∀ (l : List α) (m : List β), ∀ r ∈ List.zipWith f l m, r.ty = t := by
  intro l m r hr
  obtain ⟨i, hi, rfl⟩ := List.getElem_of_mem hr
  simp [hf]
theorem docRows_ty {v : Value} {n : Nat} {vs : List DV} {ds : List Doc} : ∀ r ∈ docRows v n vs ds, r.ty = 64 ∨ r.ty = 66 := by
  intro r hr
  rcases List.mem_cons.1 hr with rfl | hr
  · exact .inl rfl
  · exact .inr (zip_ty (f := entRow) (fun _ _ => rfl) _ _ r hr)
theorem shRows_ty {v : Value} {n : Nat} {vs : List SV} {ss : List Shf} : ∀ r ∈ shRows v n vs ss, r.ty = 59 ∨ r.ty = 3 ∨ r.ty = 61 := by
  intro r hr
  rcases List.mem_cons.1 hr with rfl | hr
  · exact .inl rfl
  · rcases List.mem_append.1 hr with hr | hr
    · exact .inr (.inl (zip_ty (f := idRow) (fun _ _ => rfl) _ _ r hr))
    · exact .inr (.inr (zip_ty (f := layRow) (fun _ _ => rfl) _ _ r hr))
theorem BooksO.setq {w : World} {lo hi q j n m : Nat} {v v' : Value} {ss : List Shf} {ds : List Doc} {t : TypeId} {cs : Array Value} {u : Value} (h : BooksO w lo hi v n ss v' m ds) (hq : w.heap[q]? = some (.cells cs t (0, 0))) (ht : t = 31) : BooksO (w.setCell ⟨q, j, none⟩ u) lo hi v n ss v' m ds := by
  obtain ⟨us, h1, vs, h2, h3⟩ := h
  refine ⟨us, h1, vs, h2, h3.setq hq fun r hr => ?_⟩
  rw [ht]
  rcases List.mem_append.1 hr with hr | hr
  · rcases shRows_ty r hr with e | e | e <;> rw [e] <;> decide
  · rcases docRows_ty r hr with e | e <;> rw [e] <;> decide

/-! ### one shelf turned -/
theorem ShelvesO.shelf {w : World} {lo hi n c k : Nat} {A : Option Addr} {ss : List Shf} {rest : List Row} (h : ShelvesO w lo hi (.slice A n c) n ss rest) (hk : k < n) (hlo : lo ≤ w.heap.size) :
    ∃ g, A = some ⟨g, 0, none⟩ ∧ lo ≤ g ∧ g < w.heap.size ∧ (∃ cs, w.heap[g]? = some (.cells cs 59 (0, 0))) ∧ (∀ j, w.frozen? ⟨g, j, none⟩ = false) ∧ ∃ (s : Shf) (iA : Option Addr) (iC : Nat) (lA : Option Addr) (lC : Nat), ss[k]? = some s ∧
      w.cell? ⟨g, k * 3, none⟩ = some (.string s.item) ∧ w.cell? ⟨g, k * 3 + 1, none⟩ = some (.slice iA s.ids.length iC) ∧ w.cell? ⟨g, k * 3 + 2, none⟩ = some (.slice lA s.lays.length lC) ∧
      w.ownsRow lo 3 1 (.slice iA s.ids.length iC) s.ids.length (intCells s.ids) ∧ RS w 3 lA s.lays.length (layCells s.lays) ∧
      (∀ (w1 : World) (B : Option Addr) (m d : Nat) (l' : List Lay), Below w.heap.size w w1 → w1.ownsRow w.heap.size 61 3 (.slice B m d) m (layCells l') →
        ShelvesO (w1.setCell ⟨g, k * 3 + 2, none⟩ (.slice B m d)) lo w1.heap.size (.slice A n c) n (ss.set k ⟨s.item, s.ids, l'⟩) rest) ∧
      (∀ (w1 : World) (B : Option Addr) (m d : Nat) (ids' : List Int), w.grownBy w1 (Value.slice iA s.ids.length iC).ownBlock → w1.ownsRow lo 3 1 (.slice B m d) m (intCells ids') →
        ((Value.slice B m d).ownBlock = (Value.slice iA s.ids.length iC).ownBlock ∨ ∀ q, (Value.slice B m d).ownBlock = some q → w.heap.size ≤ q) →
        ShelvesO (w1.setCell ⟨g, k * 3 + 1, none⟩ (.slice B m d)) lo w1.heap.size (.slice A n c) n (ss.set k ⟨s.item, ids', s.lays⟩) rest) := by
  have hl := h.len
  obtain ⟨vs, ⟨h1, h2⟩, h3⟩ := h
  have hd : ss[k]? = some ss[k] := List.getElem?_eq_getElem (by omega)
  have hx : vs[k]? = some vs[k] := List.getElem?_eq_getElem (by omega)
  have o0 : w.ownsRow lo 59 3 (.slice A n c) n (vs.flatMap svCell) := h3.get (r := ⟨59, 3, .slice A n c, n, vs.flatMap svCell⟩) (by simp [shRows])
  have hcs : ∀ g, A = some ⟨g, 0, none⟩ → ∃ cs, w.heap[g]? = some (.cells cs 59 (0, 0)) := fun g hg => by
    rcases o0.2 with ⟨hv, _⟩ | ⟨g', cap, cur, hv, _, hgg, _⟩
    · injection hv with hv; rw [hg] at hv; cases hv
    · injection hv with hv; rw [hg] at hv; injection hv with hv; injection hv with hv; subst hv; exact ⟨_, hgg⟩
  obtain ⟨g, rfl, hg1, hg2, hc, hf⟩ := own_addr o0 (by omega)
  have e1 := h2 k _ _ hx hd
  have ri : (shRows (.slice (some ⟨g, 0, none⟩) n c) n vs ss ++ rest)[k + 1]? = some (idRow vs[k] ss[k]) := by
    rw [List.getElem?_append_left (by simp [shRows]; omega)]
    simp only [shRows, List.getElem?_cons_succ]
    rw [List.getElem?_append_left (by simp; omega)]
    exact zipWith_at hx hd
  have rl : (shRows (.slice (some ⟨g, 0, none⟩) n c) n vs ss ++ rest)[n + k + 1]? = some (layRow vs[k] ss[k]) := by
    rw [List.getElem?_append_left (by simp [shRows]; omega)]
    simp only [shRows, List.getElem?_cons_succ]
    rw [List.getElem?_append_right (by simp; omega)]
    have : n + k - (List.zipWith idRow vs ss).length = k := by simp; omega
    rw [this]
    exact zipWith_at hx hd
  have oi := h3.get (List.mem_of_getElem? ri)
  have ol := h3.get (List.mem_of_getElem? rl)
  have il : ss[k].ids.length = vs[k].iN := RS.ints (RS.of_own (A := vs[k].iA) (c := vs[k].iC) oi)
  have ll : ss[k].lays.length = vs[k].lN := RS.lay (RS.of_own (A := vs[k].lA) (c := vs[k].lC) ol)
  have cc : ∀ j, j < 3 → w.cell? ⟨g, k * 3 + j, none⟩ = (svCell vs[k])[j]? := fun j hj => by
    rw [hc (k * 3 + j) (by omega)]
    exact flat_get svCell svCell_len vs k _ hx j hj
  refine ⟨g, rfl, hg1, hg2, hcs g rfl, hf, ss[k], vs[k].iA, vs[k].iC, vs[k].lA, vs[k].lC, hd, ?_, ?_, ?_, ?_, ?_, ?_, ?_⟩
  · rw [← e1]; exact cc 0 (by omega)
  · rw [il]; exact cc 1 (by omega)
  · rw [ll]; exact cc 2 (by omega)
  · rw [il]; exact oi
  · rw [ll]; exact RS.of_own ol
  · intro w1 B m d l' hb ho
    have s1 := (own_below o0 hb).stored (k * 3 + 2) (.slice B m d)
    have f1 := flat_set svCell_len (l := vs) (k := k) (x := vs[k]) (x' := { vs[k] with lA := B, lN := m, lC := d }) (j := 2) (u := .slice B m d) (by omega) hx rfl
    rw [f1] at s1
    have hgb : w.grownBy w1 (layRow vs[k] ss[k]).v.ownBlock := ⟨hb.os, hb.tape, hb.output, hb.size, fun i hi _ => hb.block i hi⟩
    have t1 := h3.turn rl hgb (v' := .slice B m d) (n' := m) (xs' := layCells l') (own_base ho hlo) (.inr fun q hq => (ho.lt q hq).1)
    have r0 : ((shRows (.slice (some ⟨g, 0, none⟩) n c) n vs ss ++ rest).set (n + k + 1) ⟨61, 3, .slice B m d, m, layCells l'⟩)[0]? = some ⟨59, 3, .slice (some ⟨g, 0, none⟩) n c, n, vs.flatMap svCell⟩ := by simp [shRows]
    have t2 := t1.turnIn r0 s1.2 s1.1 rfl
    refine ⟨vs.set k { vs[k] with lA := B, lN := m, lC := d }, ⟨by simp [h1], fun i x s hxi hsi => ?_⟩, ?_⟩
    · by_cases hik : i = k
      · subst hik
        rw [List.getElem?_set] at hxi hsi
        simp at hxi hsi
        rw [← hxi.2, ← hsi.2]
        exact e1
      · rw [List.getElem?_set_ne (Ne.symm hik)] at hxi hsi
        exact h2 i x s hxi hsi
    · refine Eq.mp (congrArg (Owns _ lo _) ?_) t2
      have z1 := zipWith_set idRow vs ss k { vs[k] with lA := B, lN := m, lC := d } ⟨ss[k].item, ss[k].ids, l'⟩
      have z2 := zipWith_set layRow vs ss k { vs[k] with lA := B, lN := m, lC := d } ⟨ss[k].item, ss[k].ids, l'⟩
      have z3 : (List.zipWith idRow vs ss).set k (idRow { vs[k] with lA := B, lN := m, lC := d } ⟨ss[k].item, ss[k].ids, l'⟩) = List.zipWith idRow vs ss := (set_self (zipWith_at (f := idRow) hx hd) : (List.zipWith idRow vs ss).set k (idRow vs[k] ss[k]) = _)
      simp only [shRows]
      rw [z1, z2, z3]
      simp only [List.cons_append, List.set_cons_succ, List.set_cons_zero]
      rw [List.set_append_left _ _ (by simp; omega), List.set_append_right _ _ (by simp; omega)]
      have : n + k - (List.zipWith idRow vs ss).length = k := by simp; omega
      rw [this]
      rfl
  · intro w1 B m d ids' hgb ho hv
    have t1 := h3.turn ri (by rw [il] at hgb; exact hgb) (v' := .slice B m d) (n' := m) (xs' := intCells ids') ho (by rw [il] at hv; exact hv)
    have r0 : ((shRows (.slice (some ⟨g, 0, none⟩) n c) n vs ss ++ rest).set (k + 1) ⟨3, 1, .slice B m d, m, intCells ids'⟩)[0]? = some ⟨59, 3, .slice (some ⟨g, 0, none⟩) n c, n, vs.flatMap svCell⟩ := by simp [shRows]
    have o1 := t1.get (List.mem_of_getElem? r0)
    have s1 := o1.stored (k * 3 + 1) (.slice B m d)
    have f1 := flat_set svCell_len (l := vs) (k := k) (x := vs[k]) (x' := { vs[k] with iA := B, iN := m, iC := d }) (j := 1) (u := .slice B m d) (by omega) hx rfl
    rw [f1] at s1
    have t2 := t1.turnIn r0 s1.2 s1.1 rfl
    refine ⟨vs.set k { vs[k] with iA := B, iN := m, iC := d }, ⟨by simp [h1], fun i x s hxi hsi => ?_⟩, ?_⟩
    · by_cases hik : i = k
      · subst hik
        rw [List.getElem?_set] at hxi hsi
        simp at hxi hsi
        rw [← hxi.2, ← hsi.2]
        exact e1
      · rw [List.getElem?_set_ne (Ne.symm hik)] at hxi hsi
        exact h2 i x s hxi hsi
    · refine Eq.mp (congrArg (Owns _ lo _) ?_) t2
      have z1 := zipWith_set idRow vs ss k { vs[k] with iA := B, iN := m, iC := d } ⟨ss[k].item, ids', ss[k].lays⟩
      have z2 := zipWith_set layRow vs ss k { vs[k] with iA := B, iN := m, iC := d } ⟨ss[k].item, ids', ss[k].lays⟩
      have z3 : (List.zipWith layRow vs ss).set k (layRow { vs[k] with iA := B, iN := m, iC := d } ⟨ss[k].item, ids', ss[k].lays⟩) = List.zipWith layRow vs ss := (set_self (zipWith_at (f := layRow) hx hd) : (List.zipWith layRow vs ss).set k (layRow vs[k] ss[k]) = _)
      simp only [shRows]
      rw [z1, z2, z3]
      simp only [List.cons_append, List.set_cons_succ, List.set_cons_zero]
      rw [List.append_assoc, List.set_append_left _ _ (by simp; omega), List.append_assoc]
      rfl

/-! ### one shelf put in -/
theorem ShelvesO.putIn {w : World} {lo hi n c k : Nat} {A : Option Addr} {ss : List Shf} {rest : List Row} (h : ShelvesO w lo hi (.slice A n c) n ss rest) (hk : k ≤ n) :
    ∃ xs, w.ownsRow lo 59 3 (.slice A n c) n xs ∧ (∀ u ∈ xs, u.oneCell' = true) ∧ ∀ (w1 : World) (B : Option Addr) (m d : Nat) (item : ByteArray), w.grownBy w1 (Value.slice A n c).ownBlock →
      w1.ownsRow lo 59 3 (.slice B m d) m (xs.take (k * 3) ++ (svCell ⟨item, none, 0, 0, none, 0, 0⟩ ++ xs.drop (k * 3))) → m = n + 1 →
      ((Value.slice B m d).ownBlock = (Value.slice A n c).ownBlock ∨ ∀ q, (Value.slice B m d).ownBlock = some q → w.heap.size ≤ q) →
      ShelvesO w1 lo w1.heap.size (.slice B m d) m (ss.take k ++ ⟨item, [], []⟩ :: ss.drop k) rest := by
  have hl := h.len
  obtain ⟨vs, ⟨h1, h2⟩, h3⟩ := h
  have o0 : w.ownsRow lo 59 3 (.slice A n c) n (vs.flatMap svCell) := h3.get (r := ⟨59, 3, .slice A n c, n, vs.flatMap svCell⟩) (by simp [shRows])
  refine ⟨_, o0, flat_one_cell svCell_one _, fun w1 B m d item hg ho hm hv => ⟨vs.take k ++ ⟨item, none, 0, 0, none, 0, 0⟩ :: vs.drop k, ⟨by simp; omega, fun i x s hx hs => ?_⟩, ?_⟩⟩
  · rcases Nat.lt_trichotomy i k with hi | hi | hi
    · rw [List.getElem?_append_left (by simp; omega), List.getElem?_take_of_lt hi] at hx hs
      exact h2 i x s hx hs
    · subst hi
      rw [List.getElem?_append_right (by simp; omega)] at hx hs
      have e1 : i - (vs.take i).length = 0 := by simp; omega
      have e2 : i - (ss.take i).length = 0 := by simp; omega
      rw [e1] at hx
      rw [e2] at hs
      simp at hx hs
      rw [← hx, ← hs]
    · rw [List.getElem?_append_right (by simp; omega)] at hx hs
      have e1 : i - (vs.take k).length = (i - k - 1) + 1 := by simp; omega
      have e2 : i - (ss.take k).length = (i - k - 1) + 1 := by simp; omega
      rw [e1, List.getElem?_cons_succ, List.getElem?_drop] at hx
      rw [e2, List.getElem?_cons_succ, List.getElem?_drop] at hs
      exact h2 _ x s hx hs
  · have t1 := h3.turn (i := 0) (r := ⟨59, 3, .slice A n c, n, vs.flatMap svCell⟩) rfl hg ho hv
    have i1 : w1.ownsRow lo 3 1 (.slice none 0 0) 0 [] := own_none _ _ _ _
    have i2 : w1.ownsRow lo 61 3 (.slice none 0 0) 0 [] := own_none _ _ _ _
    have t2 : Owns w1 lo w1.heap.size (⟨3, 1, .slice none 0 0, 0, []⟩ :: ⟨61, 3, .slice none 0 0, 0, []⟩ :: _) := ⟨fun r hr => by
      rcases List.mem_cons.1 hr with rfl | hr
      · exact ⟨i1, by simp [Value.ownBlock]⟩
      · rcases List.mem_cons.1 hr with rfl | hr
        · exact ⟨i2, by simp [Value.ownBlock]⟩
        · exact t1.1 r hr, List.pairwise_cons.2 ⟨fun _ _ => .inl rfl, List.pairwise_cons.2 ⟨fun _ _ => .inl rfl, t1.2⟩⟩⟩
    refine t2.perm ?_
    have zi : List.zipWith idRow (vs.take k ++ ⟨item, none, 0, 0, none, 0, 0⟩ :: vs.drop k) (ss.take k ++ ⟨item, [], []⟩ :: ss.drop k) = List.zipWith idRow (vs.take k) (ss.take k) ++ ⟨3, 1, .slice none 0 0, 0, []⟩ :: List.zipWith idRow (vs.drop k) (ss.drop k) := by
      rw [List.zipWith_append (by simp; omega), List.zipWith_cons_cons]; rfl
    have zl : List.zipWith layRow (vs.take k ++ ⟨item, none, 0, 0, none, 0, 0⟩ :: vs.drop k) (ss.take k ++ ⟨item, [], []⟩ :: ss.drop k) = List.zipWith layRow (vs.take k) (ss.take k) ++ ⟨61, 3, .slice none 0 0, 0, []⟩ :: List.zipWith layRow (vs.drop k) (ss.drop k) := by
      rw [List.zipWith_append (by simp; omega), List.zipWith_cons_cons]; rfl
    have si : List.zipWith idRow vs ss = List.zipWith idRow (vs.take k) (ss.take k) ++ List.zipWith idRow (vs.drop k) (ss.drop k) := by
      rw [← List.zipWith_append (by simp; omega), List.take_append_drop, List.take_append_drop]
    have sl : List.zipWith layRow vs ss = List.zipWith layRow (vs.take k) (ss.take k) ++ List.zipWith layRow (vs.drop k) (ss.drop k) := by
      rw [← List.zipWith_append (by simp; omega), List.take_append_drop, List.take_append_drop]
    have ft : (vs.flatMap svCell).take (k * 3) = (vs.take k).flatMap svCell := (flat_take svCell_len vs k).symm
    have fd : (vs.flatMap svCell).drop (k * 3) = (vs.drop k).flatMap svCell := (flat_drop svCell_len vs k).symm
    simp only [shRows, zi, zl, si, sl, List.cons_append, List.set_cons_zero, List.flatMap_append, List.flatMap_cons, ft, fd]
    generalize List.zipWith idRow (vs.take k) (ss.take k) = X1
    generalize List.zipWith idRow (vs.drop k) (ss.drop k) = X2
    generalize List.zipWith layRow (vs.take k) (ss.take k) = Y1
    generalize List.zipWith layRow (vs.drop k) (ss.drop k) = Y2
    refine (List.Perm.cons _ (List.Perm.swap _ _ _)).trans ((List.Perm.swap _ _ _).trans (List.Perm.cons _ ?_))
    simp only [List.append_assoc, List.cons_append]
    refine List.Perm.trans ?_ List.perm_middle.symm
    refine List.Perm.cons _ ?_
    have p := (List.perm_middle (a := (⟨61, 3, .slice none 0 0, 0, []⟩ : Row)) (l₁ := X1 ++ (X2 ++ Y1)) (l₂ := Y2 ++ rest)).symm
    simpa [List.append_assoc] using p

/-! ### the box of books -/
def BkO (w : World) (lo q : Nat) (ss : List Shf) (k : Int) (ds : List Doc) : Prop := ∃ (sA : Option Addr) (sn sc : Nat) (dA : Option Addr) (dn dc : Nat),
  w.heap[q]? = some (.cells #[.slice sA sn sc, .int .i64 k, .slice dA dn dc] 31 (0, 0)) ∧ lo ≤ q ∧ BooksO w lo w.heap.size (.slice sA sn sc) sn ss (.slice dA dn dc) dn ds
end Go.Proofs.Ytlgodbjbllpipaa
