/- Shelves and books as rows that a call owns: one shelf more; a prefix of a row; append at a step of a drawn region. No condition. -/
import Derived.Test.YtlgodbjbllpipaaShelfB
import Derived.Test.YtlgodbjbllpipaaCopyDocs
namespace Go.Proofs.Ytlgodbjbllpipaa
open Go.ChangeShapes Go.WideShapes Go.ChangeAt Go.RowKit Go.Deep

theorem own_none (w : World) (base : Nat) (e : TypeId) (size : Nat) : w.ownsRow base e size (.slice none 0 0) 0 [] := ⟨by simp, .inl ⟨rfl, rfl⟩⟩
theorem own_prefix {w : World} {base size n c k : Nat} {e : TypeId} {A : Option Addr} {xs : List Value} (h : w.ownsRow base e size (.slice A n c) n xs) (hk : k ≤ n) : w.ownsRow base e size (.slice A k c) k (xs.take (k * size)) := by
  have hl := h.1
  have hks : k * size ≤ n * size := Nat.mul_le_mul_right _ hk
  refine ⟨by rw [List.length_take]; omega, ?_⟩
  rcases h.2 with ⟨hv, h0⟩ | ⟨g, cap, cur, hv, hb, hg, hn, hm, hs, ht⟩
  · injection hv with h1 h2 h3
    subst h1 h3
    exact .inl ⟨by rw [show k = 0 by omega], by omega⟩
  · injection hv with h1 _ h3
    subst h1 h3
    exact .inr ⟨g, c, cur, rfl, hb, hg, by omega, hm, hs, by rw [← ht, List.take_take, Nat.min_eq_left hks]⟩
theorem Within.of_low {hi B : Nat} {w w' : World} (hb : Below B w w') (hs : w.heap.size ≤ hi) : Within B hi w w' :=
  ⟨hb.os, hb.tape, hb.output, hb.size, fun k hk hn => by
    rcases Nat.lt_or_ge k B with h1 | h1
    · exact hb.block k h1
    · exact absurd ⟨h1, by omega⟩ hn⟩
theorem Owns.low {lo hi B : Nat} {w w' : World} {rs : List Row} (h : Owns w lo hi rs) (hb : Below B w w') (hB : hi ≤ B) : Owns w' lo hi rs :=
  ⟨fun r hr => ⟨own_blk (h.1 r hr).1 fun k hk => hb.block k (by have := (h.1 r hr).2 k hk; omega), (h.1 r hr).2⟩, h.2⟩
theorem DocsO.low {lo hi B n : Nat} {w w' : World} {v : Value} {ds : List Doc} {rest : List Row} (h : DocsO w lo hi v n ds rest) (hb : Below B w w') (hB : hi ≤ B) : DocsO w' lo hi v n ds rest := let ⟨vs, h1, h2⟩ := h; ⟨vs, h1, h2.low hb hB⟩
section
variable {w w' : World} {lo hi lo' hi' : Nat} {v v' : Value} {n m : Nat} {ss : List Shf} {ds : List Doc} {rest : List Row}
theorem ShelvesO.empty (ho : w.ownsRow lo 59 3 v 0 []) : ShelvesO w lo w.heap.size v 0 [] [] :=
  ⟨[], ⟨rfl, fun i x d h => by simp at h⟩, by simpa [shRows] using Owns.one ho⟩
theorem ShelvesO.outer (h : ShelvesO w lo hi v n ss rest) (hlo : lo ≤ w.heap.size) : ∃ xs, w.ownsRow lo 59 3 v n xs ∧ ∀ (w1 w2 : World) (x : SV) (s : Shf) (v' : Value),
    Below w.heap.size w w1 → x.item = s.item → Owns w1 w.heap.size w1.heap.size [idRow x s, layRow x s] → w1.grownBy w2 v.ownBlock → w2.ownsRow lo 59 3 v' (n + 1) (xs ++ svCell x) →
    (v'.ownBlock = v.ownBlock ∨ ∀ k, v'.ownBlock = some k → w1.heap.size ≤ k) → ShelvesO w2 lo w2.heap.size v' (n + 1) (ss ++ [s]) rest := by
  obtain ⟨vs, ⟨h1, h2⟩, h3⟩ := h
  have o0 : w.ownsRow lo 59 3 v n (vs.flatMap svCell) := h3.get (r := ⟨59, 3, v, n, vs.flatMap svCell⟩) (by simp [shRows])
  refine ⟨_, o0, fun w1 w2 x s v' hb he ho hg ho2 hv => ⟨vs ++ [x], ⟨by simp [h1], fun i y d hy hd => ?_⟩, ?_⟩⟩
  · rcases Nat.lt_or_ge i vs.length with hi | hi
    · rw [List.getElem?_append_left hi] at hy
      rw [List.getElem?_append_left (by omega)] at hd
      exact h2 i y d hy hd
    · rw [List.getElem?_append_right hi] at hy
      rw [List.getElem?_append_right (by omega)] at hd
      have : i - vs.length = 0 := by
        have := (List.getElem?_eq_some_iff.1 hy).1
        simpa using this
      rw [this] at hy
      rw [← h1, this] at hd
      simp at hy hd
      rw [← hy, ← hd]
      exact he
  · have t1 := h3.join hb ho (Nat.le_refl _) hlo
    have t2 := t1.turn (i := 2) (r := ⟨59, 3, v, n, vs.flatMap svCell⟩) rfl hg ho2 hv
    refine t2.perm ?_
    simp only [shRows, List.cons_append, List.nil_append, List.set_cons_succ, List.set_cons_zero, List.zipWith_append h1, List.flatMap_append, List.flatMap_cons, List.flatMap_nil, List.append_nil, List.zipWith_cons_cons, List.zipWith_nil_left]
    have p := (perm_two (idRow x s) (layRow x s) (⟨59, 3, v', n + 1, vs.flatMap svCell ++ svCell x⟩ : Row) (List.zipWith idRow vs ss) (List.zipWith layRow vs ss)).append_right rest
    simpa using p
/-- Books from their parts, the documents made first. -/
theorem BooksO.of2 {B : Nat} (h' : DocsO w lo hi' v' m ds []) (hb : Below w.heap.size w w') (h : ShelvesO w' B hi v n ss []) (hB : w.heap.size ≤ B) (hl : lo ≤ B) : BooksO w' lo w'.heap.size v n ss v' m ds := by
  obtain ⟨vs, h1, h2⟩ := h
  obtain ⟨us, k1, k2⟩ := h'
  rw [List.append_nil] at h2 k2
  exact ⟨us, k1, vs, h1, k2.join hb h2 hB hl⟩
end
theorem Owns.both {w : World} {lo hi lo' hi' : Nat} {rs rs' : List Row} (h : Owns w lo hi rs) (h' : Owns w lo' hi' rs') (hh : hi ≤ lo') (hl : lo ≤ lo') : Owns w lo w.heap.size (rs' ++ rs) := by
  refine ⟨fun x hx => ?_, List.pairwise_append.2 ⟨h'.2, h.2, fun a ha b hb => ?_⟩⟩
  · rcases List.mem_append.1 hx with hm | hm
    · have := own_base (h'.1 x hm).1 hl
      exact ⟨this, fun k hk => (this.lt k hk).2⟩
    · have := (h.1 x hm).1
      exact ⟨this, fun k hk => (this.lt k hk).2⟩
  · unfold Apart
    cases hv : a.v.ownBlock with
    | none => exact .inl rfl
    | some q =>
      refine .inr fun he => ?_
      have h1 := ((h'.1 a ha).1.lt q hv).1
      have h2 := (h.1 b hb).2 q he.symm
      omega
theorem BooksO.of3 {w : World} {lo hi B hi' n m : Nat} {v v' : Value} {ss : List Shf} {ds : List Doc} (h' : DocsO w lo hi v' m ds []) (h : ShelvesO w B hi' v n ss []) (hB : hi ≤ B) (hl : lo ≤ B) : BooksO w lo w.heap.size v n ss v' m ds := by
  obtain ⟨vs, h1, h2⟩ := h
  obtain ⟨us, k1, k2⟩ := h'
  rw [List.append_nil] at h2 k2
  exact ⟨us, k1, vs, h1, k2.both h2 hB hl⟩
/-- Onto a row of none. -/
theorem step_app0 {P : Program} (w : World) {ops : Array Oper} {o : Oper} {a : Act} {K : Act → World → Prop} {Q : Exit → Act → World → Prop} {E : Prop} (hgd : o.guard = none) (s x : Operand) (t : TypeId)
    (ho : o.op = .call { callee := .builtin .append, args := #[s, x], argTypes := #[t, t] })
    (base : Nat) (e : TypeId) (i : TypeInfo) (z : Value) (size bytes : Nat) (ht : P.underlying t = some (.slice e)) (hi : P.info? e = some i) (hz : i.zero = some z)
    (hsize : i.size = size) (hby : i.bytes = bytes) (hzs : z.cells.size = size) (hsz : 0 < size)
    (v : Value) (hs : a.eval s = v) (hown : w.ownsRow base e size v 0 [])
    (A : Option Addr) (m c : Nat) (news : List Value) (hx : a.eval x = .slice A m c) (hr : RS w size A m news) (h1 : ∀ u ∈ news, u.oneCell' = true)
    (h63 : m ≤ maxLen) (hbytes : m * bytes ≤ 140737488355328) (hbase : base ≤ w.heap.size)
    (h : ∀ A' c' w', w'.ownsRow base e size (.slice A' m c') m news → w.grownBy w' v.ownBlock → ((Value.slice A' m c').ownBlock = v.ownBlock ∨ (Value.slice A' m c').ownBlock = some w.heap.size) → Below base w w' →
      K (a.put o.dst (.slice A' m c')) w') :
    if Region.wanted o (yielded ops a.tmps) = true then Oper.wp P o a w K Q else E := by
  refine step_app w hgd s x t ho base e i z size bytes ht hi hz hsize hby hzs hsz v 0 [] hs hown A m c news hx hr h1 (by rw [Nat.zero_add]; exact h63) (by rw [Nat.zero_add]; exact hbytes) hbase ?_
  rw [Nat.zero_add, List.nil_append]
  exact h
end Go.Proofs.Ytlgodbjbllpipaa
