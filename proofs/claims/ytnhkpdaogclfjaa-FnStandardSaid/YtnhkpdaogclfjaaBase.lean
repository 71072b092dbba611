/- Words of this proof's own: a slice that reads as a list of cells; worlds that extend a world; an append onto a row of the call's own. No condition: each is a plain law, over any program. -/
import Derived.Test.YtnhkpdaogclfjaaRows
import Derived.WalkKit
import Derived.ProofKit
import Derived.OpenShut
import Derived.Handy
import Derived.BigQuiet
import Derived.Lib.Hide
import Derived.WalkLawsBesides
import Derived.Maps.AppendAt
import Derived.Deep.AppendLies
namespace Go.Proofs.Ytnhkpdaogclfjaa
open Go.ChangeShapes Go.WideShapes Go.ChangeAt Go.RowKit

/-! ### endings -/
theorem ret_bool {a b : Bool} (h : a = b) : Ending.returned (.bool a) = .returned (.bool b) := by rw [h]
theorem ret_int {k : IntKind} {a b : Int} (h : a = b) : Ending.returned (.int k a) = .returned (.int k b) := by rw [h]

/-! ### from .. to -/
def inB (n a b : Int) : Bool := decide (a ≤ n) && decide (n ≤ b)
theorem inB_true {n a b : Int} : inB n a b = true ↔ a ≤ n ∧ n ≤ b := by simp [inB]
theorem inB_false {n a b : Int} : inB n a b = false ↔ ¬ (a ≤ n ∧ n ≤ b) := by simp [inB]

/-! ### what a later world keeps -/
theorem cell_keep {w w' : World} (hb : Below w.heap.size w w') {p : Addr} {v : Value} (h : w.cell? p = some v) : w'.cell? p = some v :=
  (hb.cell (World.block_lt_of_cell? w p h)).trans h
theorem cell_alloc {w : World} {p : Addr} {v : Value} (h : w.cell? p = some v) : ∀ o, (w.alloc o).cell? p = some v := fun o => cell_keep ((Below.refl _ _).alloc (Nat.le_refl _) o) h
theorem below_drewN {B : Nat} {a w : World} (h : Below B a w) (n : Nat) : Below B a (w.drewN n) := ⟨h.os, h.tape, h.output, h.size, h.block⟩
/-- A new block's cells, in the world with it and in every later one. -/
theorem box_cell {w : World} {cs : Array Value} {t : TypeId} {j : Nat} {v : Value} (h : cs[j]? = some v) : (w.alloc (.cells cs t)).cell? ⟨w.heap.size, j, none⟩ = some v := by
  rw [cell_of_row _ w.heap.size j cs t (0, 0) (heap_alloc_new w _)]; exact h
theorem box_keep {w w' : World} {cs : Array Value} {t : TypeId} (hb : Below (w.alloc (.cells cs t)).heap.size (w.alloc (.cells cs t)) w') {j : Nat} {v : Value} (h : cs[j]? = some v) : w'.cell? ⟨w.heap.size, j, none⟩ = some v :=
  cell_keep hb (box_cell h)
/-- Behind a call: every old cell and every old mark read as they did: two rules for the walk. -/
theorem bcell {W w1 : World} (hb : Below W.heap.size W w1) : (∀ b o, b < W.heap.size → w1.cell? ⟨b, o, none⟩ = W.cell? ⟨b, o, none⟩) ∧ (∀ b o, b < W.heap.size → w1.frozen? ⟨b, o, none⟩ = W.frozen? ⟨b, o, none⟩) :=
  ⟨fun b o h => hb.cell (p := ⟨b, o, none⟩) h, fun b o h => hb.frozen (p := ⟨b, o, none⟩) h⟩
/-- A block that is known whole, in later worlds. -/
theorem blk_keep {w w' : World} {g : Nat} {o : Obj} (hb : Below w.heap.size w w') (h : w.heap[g]? = some o) : w'.heap[g]? = some o :=
  (hb.block g (Array.getElem?_eq_some_iff.1 h).1).trans h
theorem blk_alloc {w : World} {g : Nat} {o : Obj} (h : w.heap[g]? = some o) (o' : Obj) : (w.alloc o').heap[g]? = some o := blk_keep ((Below.refl _ _).alloc (Nat.le_refl _) o') h
theorem blk_new1 (w : World) (o : Obj) : (w.alloc o).heap[w.heap.size]? = some o := heap_alloc_new w o
theorem blk_new2 (w : World) (o o' : Obj) : ((w.alloc o).alloc o').heap[w.heap.size + 1]? = some o' := by have := heap_alloc_new (w.alloc o) o'; simpa using this
theorem blk_new3 (w : World) (o o' o'' : Obj) : (((w.alloc o).alloc o').alloc o'').heap[w.heap.size + 1 + 1]? = some o'' := by have := heap_alloc_new ((w.alloc o).alloc o') o''; simpa using this
theorem blk_at {w : World} {g : Nat} {cs : Array Value} {t : TypeId} (h : w.heap[g]? = some (.cells cs t (0, 0))) {j : Nat} {v : Value} (hj : cs[j]? = some v) : w.cell? ⟨g, j, none⟩ = some v := by
  rw [cell_of_row _ g j cs t (0, 0) h]; exact hj
theorem blk_free {w : World} {g : Nat} {cs : Array Value} {t : TypeId} (h : w.heap[g]? = some (.cells cs t (0, 0))) (j : Nat) : w.frozen? ⟨g, j, none⟩ = false := frozen_of_row w g j cs t h
theorem below_box (w : World) (o : Obj) : Below w.heap.size w (w.alloc o) := (Below.refl _ _).alloc (Nat.le_refl _) o
theorem below_then {a b c : World} (h : Below a.heap.size a b) (k : Below b.heap.size b c) : Below a.heap.size a c := h.trans (k.mono h.size)
theorem below_app {B : Nat} {a b c : World} (h : Below B a b) (k : Below b.heap.size b c) (hB : B ≤ b.heap.size) : Below B a c := h.trans (k.mono hB)

/-! ### a slice (A, n) that reads as the cells xs, 'size' cells an element -/
structure RS (w : World) (size : Nat) (A : Option Addr) (n : Nat) (xs : List Value) : Prop where
  len : xs.length = n * size
  at_ : 0 < n → ∃ g off, A = some ⟨g, off, none⟩ ∧ ∀ j u, xs[j]? = some u → w.cell? ⟨g, off + j, none⟩ = some u

section
variable {w w' : World} {size n : Nat} {A : Option Addr} {xs : List Value}
theorem RS.keep (h : RS w size A n xs) (hk : ∀ p v, w.cell? p = some v → w'.cell? p = some v) : RS w' size A n xs :=
  ⟨h.len, fun hn => let ⟨g, off, e, hc⟩ := h.at_ hn; ⟨g, off, e, fun j u hu => hk _ _ (hc j u hu)⟩⟩
theorem RS.below (h : RS w size A n xs) (hb : Below w.heap.size w w') : RS w' size A n xs := h.keep fun _ _ hp => cell_keep hb hp
theorem RS.drewN (h : RS w size A n xs) (k : Nat) : RS (w.drewN k) size A n xs := ⟨h.len, h.at_⟩
theorem RS.alloc (h : RS w size A n xs) (o : Obj) : RS (w.alloc o) size A n xs := h.below ((Below.refl _ _).alloc (Nat.le_refl _) o)
theorem RS.nil (w : World) (size : Nat) (A : Option Addr) : RS w size A 0 [] := ⟨by simp, fun h => absurd h (Nat.lt_irrefl 0)⟩
theorem RS.of_own {base : Nat} {e : TypeId} {c : Nat} (h : w.ownsRow base e size (.slice A n c) n xs) : RS w size A n xs := by
  refine ⟨h.1, fun hn => ?_⟩
  obtain ⟨g, cap, hv, _⟩ := h.form hn
  have hA : A = some ⟨g, 0, none⟩ := by injection hv
  subst hA
  refine ⟨g, 0, rfl, fun j u hu => ?_⟩
  have hc := h.cells (g := g) rfl j u hu
  rcases Nat.eq_zero_or_pos j with h0 | h0
  · subst h0; simpa [Addr.add] using hc
  · have : (⟨g, 0, none⟩ : Addr).add j = ⟨g, 0 + j, none⟩ := by unfold Addr.add; rw [if_neg (by omega)]
    rwa [this] at hc
/-- At an element. -/
theorem RS.cell (h : RS w size A n xs) {k i : Nat} {u : Value} (hk : k < n) (hu : xs[k * size + i]? = some u) : ∃ g off, A = some ⟨g, off, none⟩ ∧ w.cell? ⟨g, off + k * size + i, none⟩ = some u := by
  obtain ⟨g, off, e, hc⟩ := h.at_ (by omega)
  exact ⟨g, off, e, by rw [Nat.add_assoc]; exact hc _ _ hu⟩
end

/-! ### an owned row -/
section
variable {w w' : World} {base size n c : Nat} {e : TypeId} {A : Option Addr} {v : Value} {xs : List Value}
theorem own_below (h : w.ownsRow base e size v n xs) (hb : Below w.heap.size w w') : w'.ownsRow base e size v n xs :=
  h.kept (row := none) ⟨hb.os, hb.tape, hb.output, hb.size, fun k hk _ => hb.block k hk⟩ (by cases v.ownBlock <;> simp)
theorem own_base {base' : Nat} (h : w.ownsRow base e size v n xs) (hb : base' ≤ base) : w.ownsRow base' e size v n xs := by
  refine ⟨h.1, ?_⟩
  rcases h.2 with hn | ⟨g, cap, cur, hv, hg, r⟩
  · exact .inl hn
  · exact .inr ⟨g, cap, cur, hv, Nat.le_trans hb hg, r⟩
theorem own_len (h : w.ownsRow base e size v n xs) : xs.length = n * size := h.1
/-- The value of an owned row is a slice of its length. -/
theorem own_slice (h : w.ownsRow base e size v n xs) : ∃ A c, v = .slice A n c ∧ n ≤ c ∧ c ≤ maxLen := by
  rcases h.2 with ⟨rfl, rfl⟩ | ⟨g, cap, cur, rfl, _, _, hc, hm, _⟩
  · exact ⟨none, 0, rfl, Nat.le_refl _, Nat.zero_le _⟩
  · exact ⟨_, cap, rfl, hc, hm⟩
/-- Where something is, the row has an address in a block from 'base' on. -/
theorem own_addr (h : w.ownsRow base e size (.slice A n c) n xs) (hn : 0 < n) : ∃ g, A = some ⟨g, 0, none⟩ ∧ base ≤ g ∧ g < w.heap.size ∧ (∀ j, j < n * size → w.cell? ⟨g, j, none⟩ = xs[j]?) ∧ ∀ j, w.frozen? ⟨g, j, none⟩ = false := by
  obtain ⟨g, cap, hv, hb, hlt⟩ := h.form hn
  obtain ⟨rfl, rfl⟩ : A = some ⟨g, 0, none⟩ ∧ c = cap := by injection hv with h1 h2 h3; exact ⟨h1, h3⟩
  exact ⟨g, rfl, hb, hlt, fun j hj => h.cellAt j hj, fun j => h.frozenAt j⟩
/-- A row is untouched by what changes only blocks from a later base on, or another row. -/
theorem own_grown {row : Option Nat} (h : w.ownsRow base e size v n xs) (hg : w.grownBy w' row) (hne : v.ownBlock = none ∨ v.ownBlock ≠ row) : w'.ownsRow base e size v n xs := h.kept hg hne
theorem below_of_grown {B : Nat} (h : w.ownsRow base e size v n xs) (hg : w.grownBy w' v.ownBlock) (hB : B ≤ base) (hs : B ≤ w.heap.size) : Below B w w' :=
  (Below.refl _ _).grown hg hs fun k hk => Nat.le_trans hB (h.lt k hk).1
end

theorem ext_upto {α : Type} {l l' : List α} {n : Nat} (h : l.length = n) (h' : l'.length = n) (hs : ∀ j, j < n → l[j]? = l'[j]?) : l = l' := by
  apply List.ext_getElem?; intro j
  by_cases hj : j < n
  · exact hs j hj
  · rw [List.getElem?_eq_none (by omega), List.getElem?_eq_none (by omega)]

/-! ### a row filled from its head -/
theorem take_next {xs p : List Value} {j i : Nat} {u : Value} (h : xs.take j = p) (hj : j < xs.length) (hi : i = j) : (xs.set i u).take (j + 1) = p ++ [u] := by
  subst hi
  rw [List.take_succ_eq_append_getElem (by simpa using hj), List.take_set_of_le (Nat.le_refl _), h]
  simp
theorem take_all {xs p : List Value} {n : Nat} (h : xs.take n = p) (hn : xs.length = n) : xs = p := by rw [← h, List.take_of_length_le (Nat.le_of_eq hn)]
/-- A row of which the first j cells are known, stored into at j. -/
theorem own_fill {w : World} {base : Nat} {e : TypeId} {size g n c : Nat} {xs p : List Value} {j i : Nat} (u : Value) (h : w.ownsRow base e size (.slice (some ⟨g, 0, none⟩) n c) n xs) (hp : xs.take j = p) (hi : i = j) (hj : j < n * size) :
    ∃ ys, (w.setCell ⟨g, i, none⟩ u).ownsRow base e size (.slice (some ⟨g, 0, none⟩) n c) n ys ∧ ys.take (j + 1) = p ++ [u] :=
  ⟨_, (h.stored i u).1, take_next hp (by rw [h.1]; exact hj) hi⟩
theorem own_cells {w : World} {base : Nat} {e : TypeId} {size g n c : Nat} {xs : List Value} (h : w.ownsRow base e size (.slice (some ⟨g, 0, none⟩) n c) n xs) {j : Nat} (hj : j < n * size) : ∃ v, w.cell? ⟨g, j, none⟩ = some v :=
  ⟨_, (h.cellAt j hj).trans (List.getElem?_eq_getElem (by rw [h.1]; exact hj))⟩
/-- What a mark leaves: the numbers from k on. -/
def marks (k : Int) (m : Nat) : List Value := (List.range m).map fun (j : Nat) => Value.int .i64 (k + j)
theorem marks_zero (k : Int) : marks k 0 = [] := rfl
theorem marks_succ (k : Int) (m : Nat) : marks k (m + 1) = marks k m ++ [.int .i64 (k + m)] := by simp [marks, List.range_succ]
theorem marks_len (k : Int) (m : Nat) : (marks k m).length = m := by simp [marks]
theorem marks_at (k : Int) {m j : Nat} (h : j < m) : (marks k m)[j]? = some (.int .i64 (k + j)) := by simp [marks, h]

/-- A block that has just been made, as a slice over all of it. -/
theorem RS_new {w : World} {cs : Array Value} {t : TypeId} {n size : Nat} (h : cs.size = n * size) : RS (w.alloc (.cells cs t)) size (some ⟨w.heap.size, 0, none⟩) n cs.toList :=
  ⟨by simpa using h, fun _ => ⟨_, 0, rfl, fun j u hu => by rw [Nat.zero_add]; exact box_cell (by simpa using hu)⟩⟩
theorem RS_new2 {w : World} {o : Obj} {cs : Array Value} {t : TypeId} {n size : Nat} (h : cs.size = n * size) : RS ((w.alloc o).alloc (.cells cs t)) size (some ⟨w.heap.size + 1, 0, none⟩) n cs.toList := by
  have := RS_new (w := w.alloc o) (cs := cs) (t := t) h
  simpa using this
/-- An empty slice that is not nil. -/
theorem own_empty (w : World) (base : Nat) (e : TypeId) (size : Nat) (hb : base ≤ w.heap.size) : (w.alloc (.cells #[] e)).ownsRow base e size (.slice (some ⟨w.heap.size, 0, none⟩) 0 0) 0 [] :=
  World.ownsRow_made w #[] 0 hb (Nat.zero_le _) (by simp)

/-! ### append, whatever the source -/
section
variable {P : Program} (w : World)
theorem run_app (base : Nat) (t ty e : TypeId) (i : TypeInfo) (z : Value) (size bytes : Nat) (ht : P.underlying t = some (.slice e)) (hi : P.info? e = some i) (hz : i.zero = some z)
    (hsize : i.size = size) (hby : i.bytes = bytes) (hzs : z.cells.size = size) (hsz : 0 < size)
    (v : Value) (n : Nat) (xs : List Value) (hown : w.ownsRow base e size v n xs)
    (A : Option Addr) (m c : Nat) (news : List Value) (hr : RS w size A m news) (h1 : ∀ u ∈ news, u.oneCell' = true)
    (h63 : n + m ≤ maxLen) (hbytes : (n + m) * bytes ≤ 140737488355328) (hbase : base ≤ w.heap.size) :
    ∃ A' c' w', (Builtin.append_ #[t, t] ty #[v, .slice A m c]).run P w = .ok (.slice A' (n + m) c') w' ∧ w'.ownsRow base e size (.slice A' (n + m) c') (n + m) (xs ++ news) ∧ w.grownBy w' v.ownBlock ∧
      ((Value.slice A' (n + m) c').ownBlock = v.ownBlock ∨ (Value.slice A' (n + m) c').ownBlock = some w.heap.size) := by
  rcases Nat.eq_zero_or_pos m with h0 | h0
  · subst h0
    have hn : news = [] := List.eq_nil_of_length_eq_zero (by simpa using hr.len)
    subst hn
    rcases A with _ | ad
    · obtain ⟨A', c', rfl, hc1, hc2⟩ := own_slice hown
      refine ⟨A', c', w, ?_, by simpa using hown, World.grownBy.refl w _, .inl rfl⟩
      rcases hown.2 with ⟨hv, hn0⟩ | ⟨g, cap, cur, hv, _, _, hnc, _⟩
      · obtain ⟨rfl, rfl, rfl⟩ : A' = none ∧ n = 0 ∧ c' = 0 := by injection hv with a b c; exact ⟨a, b, c⟩
        simp [Builtin.append_, run_underlying ht, sizeOf, typeInfo, hi, Builtin.lenOf, Builtin.firstCells]
      · obtain ⟨rfl, rfl⟩ : A' = some ⟨g, 0, none⟩ ∧ c' = cap := by injection hv with a b c; exact ⟨a, c⟩
        simp [Builtin.append_, run_underlying ht, sizeOf, typeInfo, hi, Builtin.lenOf, Builtin.firstCells, hnc, storeCells]
    · obtain ⟨v', w', hrun, h2, h3, _, h5⟩ := run_append_own_at (P := P) w base t ty e i z size bytes ht hi hz hsize hby hzs hsz v n xs hown ad 0 c [] (by simp) (by simp) (by simp) h63 hbytes hbase
      obtain ⟨A', c', rfl, _, _⟩ := own_slice h2
      exact ⟨A', c', w', hrun, h2, h3, h5⟩
  · obtain ⟨g, off, rfl, hc⟩ := hr.at_ h0
    have hcells : ∀ j u, news[j]? = some u → w.cell? ((⟨g, off, none⟩ : Addr).add j) = some u := by
      intro j u hu
      have hcc := hc j u hu
      rcases Nat.eq_zero_or_pos j with hj | hj
      · subst hj; simpa [Addr.add] using hcc
      · have : (⟨g, off, none⟩ : Addr).add j = ⟨g, off + j, none⟩ := by unfold Addr.add; rw [if_neg (by omega)]
        rwa [this]
    obtain ⟨v', w', hrun, h2, h3, _, h5⟩ := run_append_own_at (P := P) w base t ty e i z size bytes ht hi hz hsize hby hzs hsz v n xs hown _ m c news hr.len hcells h1 h63 hbytes hbase
    obtain ⟨A', c', rfl, _, _⟩ := own_slice h2
    exact ⟨A', c', w', hrun, h2, h3, h5⟩

theorem wp_app {o : Oper} {a : Act} {K : Act → World → Prop} {Q : Exit → Act → World → Prop} (s x : Operand) (t : TypeId)
    (ho : o.op = .call { callee := .builtin .append, args := #[s, x], argTypes := #[t, t] })
    (base : Nat) (e : TypeId) (i : TypeInfo) (z : Value) (size bytes : Nat) (ht : P.underlying t = some (.slice e)) (hi : P.info? e = some i) (hz : i.zero = some z)
    (hsize : i.size = size) (hby : i.bytes = bytes) (hzs : z.cells.size = size) (hsz : 0 < size)
    (v : Value) (n : Nat) (xs : List Value) (hs : a.eval s = v) (hown : w.ownsRow base e size v n xs)
    (A : Option Addr) (m c : Nat) (news : List Value) (hx : a.eval x = .slice A m c) (hr : RS w size A m news) (h1 : ∀ u ∈ news, u.oneCell' = true)
    (h63 : n + m ≤ maxLen) (hbytes : (n + m) * bytes ≤ 140737488355328) (hbase : base ≤ w.heap.size)
    (h : ∀ A' c' w', w'.ownsRow base e size (.slice A' (n + m) c') (n + m) (xs ++ news) → w.grownBy w' v.ownBlock → ((Value.slice A' (n + m) c').ownBlock = v.ownBlock ∨ (Value.slice A' (n + m) c').ownBlock = some w.heap.size) → Below base w w' →
      K (a.put o.dst (.slice A' (n + m) c')) w') : o.wp P a w K Q := by
  obtain ⟨A', c', w', hrun, h2, h3, h4⟩ := run_app (P := P) w base t o.type e i z size bytes ht hi hz hsize hby hzs hsz v n xs hown A m c news hr h1 h63 hbytes hbase
  unfold Oper.wp execOp
  simp only [ho, resolve, invoke, builtin, Sem.run_bind, Sem.run_pure, Result.andThen_ok, List.map_toArray, List.map_cons, List.map_nil, hs, hx, hrun]
  exact h A' c' w' h2 h3 h4 (below_of_grown hown h3 (Nat.le_refl _) hbase)

theorem wpList_app {ops : Array Oper} {rest : List Oper} {o : Oper} {a : Act} {Q : Exit → Act → World → Prop} (hgd : o.guard = none) (s x : Operand) (t : TypeId)
    (ho : o.op = .call { callee := .builtin .append, args := #[s, x], argTypes := #[t, t] })
    (base : Nat) (e : TypeId) (i : TypeInfo) (z : Value) (size bytes : Nat) (ht : P.underlying t = some (.slice e)) (hi : P.info? e = some i) (hz : i.zero = some z)
    (hsize : i.size = size) (hby : i.bytes = bytes) (hzs : z.cells.size = size) (hsz : 0 < size)
    (v : Value) (n : Nat) (xs : List Value) (hs : a.eval s = v) (hown : w.ownsRow base e size v n xs)
    (A : Option Addr) (m c : Nat) (news : List Value) (hx : a.eval x = .slice A m c) (hr : RS w size A m news) (h1 : ∀ u ∈ news, u.oneCell' = true)
    (h63 : n + m ≤ maxLen) (hbytes : (n + m) * bytes ≤ 140737488355328) (hbase : base ≤ w.heap.size)
    (h : ∀ A' c' w', w'.ownsRow base e size (.slice A' (n + m) c') (n + m) (xs ++ news) → w.grownBy w' v.ownBlock → ((Value.slice A' (n + m) c').ownBlock = v.ownBlock ∨ (Value.slice A' (n + m) c').ownBlock = some w.heap.size) → Below base w w' →
      wpList P ops Q rest (a.put o.dst (.slice A' (n + m) c')) w') : wpList P ops Q (o :: rest) a w :=
  wpList_plain hgd fun _ hK => wp_app w s x t ho base e i z size bytes ht hi hz hsize hby hzs hsz v n xs hs hown A m c news hx hr h1 h63 hbytes hbase fun A' c' w' h2 h3 h4 h5 => hK _ _ (h A' c' w' h2 h3 h4 h5)
end

/-! ### worlds that extend a world: the class for a region that draws its order and holds calls that make memory -/
structure WX where
  n : Nat
  os : Array Obj
instance : Inhabited WX := ⟨⟨0, #[]⟩⟩
def wext (w : World) (x : WX) : World := { w with drawn := x.n, heap := w.heap ++ x.os }

section
variable {w : World}
theorem below_wext (w : World) (x : WX) : Below w.heap.size w (wext w x) :=
  ⟨rfl, rfl, rfl, by simp [wext], fun k hk => by simp [wext, Array.getElem?_append, hk]⟩
theorem wext_of_below {w' : World} (h : Below w.heap.size w w') : ∃ x, w' = wext w x := by
  refine ⟨⟨w'.drawn, w'.heap.extract w.heap.size⟩, ?_⟩
  obtain ⟨hp, tp, dr, os, ou⟩ := w'
  obtain ⟨ho, ht, hu, hs, hb⟩ := h
  simp only [] at ho ht hu hs hb ⊢
  subst ho ht hu
  have : hp = w.heap ++ hp.extract w.heap.size := by
    apply Array.ext_getElem?
    intro i
    rw [Array.getElem?_append]
    by_cases hi : i < w.heap.size
    · rw [if_pos hi]; exact hb i hi
    · rw [if_neg hi]
      rw [Array.getElem?_extract]
      by_cases h2 : i - w.heap.size < hp.size - w.heap.size
      · rw [if_pos (by omega)]; congr 1; omega
      · rw [if_neg (by omega)]; exact Array.getElem?_eq_none (by omega)
  simp only [wext]
  rw [← this]
theorem cell_wext {p : Addr} {v : Value} (h : w.cell? p = some v) : ∀ x, (wext w x).cell? p = some v := fun x => cell_keep (below_wext w x) h
theorem frozen_wext {p : Addr} (hp : p.block < w.heap.size) (h : w.frozen? p = false) : ∀ x, (wext w x).frozen? p = false := fun x => ((below_wext w x).frozen hp).trans h
theorem RS.wext {size n : Nat} {A : Option Addr} {xs : List Value} (h : RS w size A n xs) (x : WX) : RS (wext w x) size A n xs := h.below (below_wext w x)
/-- A callee's contract, met in a world of the class. -/
theorem ext_call {P : Program} {f : FuncId} {args : Array Value} {x : WX} {v : Value}
    (h : Calls P f args (wext w x) fun e w' => e = .returned v ∧ Below (wext w x).heap.size (wext w x) w') : Calls P f args (wext w x) fun e w'' => e = .returned v ∧ ∃ y, w'' = wext w y :=
  h.mono fun _ _ ⟨he, hb⟩ => ⟨he, wext_of_below (below_then (below_wext w x) hb)⟩
theorem quiet_left {P : Program} {f : FuncId} {args : Array Value} {n : Nat} {v : Value} (h : Calls P f args (w.drewN n) fun e w' => e = .returned v ∧ w.drewN n = w') : Calls P f args (w.drewN n) fun e w'' => e = .returned v ∧ ∃ m, w'' = w.drewN m :=
  h.mono fun _ _ ⟨he, hm⟩ => ⟨he, n, hm.symm⟩
theorem ext_quiet {P : Program} {f : FuncId} {args : Array Value} {x : WX} {v : Value}
    (h : Calls P f args (wext w x) fun e w' => e = .returned v ∧ wext w x = w') : Calls P f args (wext w x) fun e w'' => e = .returned v ∧ ∃ y, w'' = wext w y :=
  h.mono fun _ _ ⟨he, hb⟩ => ⟨he, x, hb.symm⟩
theorem wp_region_ext {P : Program} {id : Nat} {Q : Exit → Act → World → Prop} {a : Act} {l : List Oper} (hm : P.follows .mixedOrders = true) (hB : Region.lexB .any l.toArray = true)
    (h : wpQuiet P l.toArray (fun w' => ∃ x, w' = wext w x) (fun a' => ∀ w', (∃ x, w' = wext w x) → Q .normal a' w') l a) : (Code.region id l.toArray true).wp P Q a w :=
  wp_region_quiet (C := fun w' => ∃ x, w' = wext w x) hm hB (wext_of_below ⟨rfl, rfl, rfl, Nat.le_refl _, fun _ _ => rfl⟩) (by simpa using h)
end
end Go.Proofs.Ytnhkpdaogclfjaa
