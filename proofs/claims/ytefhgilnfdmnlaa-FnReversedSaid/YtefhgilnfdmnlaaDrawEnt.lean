/- The walks of the drawing of entries. No condition. -/
import Derived.Test.YtefhgilnfdmnlaaDraw2
import Derived.Test.YtefhgilnfdmnlaaSEntry
import Derived.Test.YtefhgilnfdmnlaaDocO
namespace Go.Proofs.Ytefhgilnfdmnlaa
open Go.ChangeShapes Go.WideShapes Go.ChangeAt Go.RowKit

/-- A text that is not long. -/
def ShortText (u : Value) : Prop := ∃ s : ByteArray, u = .string s ∧ s.size ≤ 12
theorem l1Pick_any (g : Nat) (A : Option Addr) (n c : Nat) (xs : List Value) (w : World) (hc : Cur w g) (h : RS w 1 A n xs) (hxs : ∀ u ∈ xs, ShortText u) (h0 : 0 < n) (hn : n ≤ 1000000) (hA : ∀ a, A = some a → a.block ≠ g) :
    Calls Try.prog 72 #[.pointer (some ⟨g, 0, none⟩), .slice A n c] w fun e w' => ∃ s : ByteArray, e = .returned (.string s) ∧ s.size ≤ 12 ∧ w.grownBy w' (some g) ∧ Cur w' g := by
  go_enter Try.func72, Try.ntmps72
  go_wp2_with fail
  refine (l1Below_any g n _ hc (by omega)).mono ?_; rintro e w1 ⟨x, rfl, hx0, -, hx1, hg1, hc1⟩
  have hx2 := hx1 (by omega)
  clear hx1
  have h1 := h.grown hg1 (fun a e _ he => hA a e (by injection he))
  obtain ⟨j, rfl⟩ := Int.eq_ofNat_of_zero_le hx0
  obtain ⟨ga, off, rfl, hcell⟩ := h1.at_ h0
  obtain ⟨y, hy⟩ : ∃ y, xs[j]? = some y := ⟨_, List.getElem?_eq_getElem (by have := h.len; simp at this; omega)⟩
  obtain ⟨s, rfl, hs⟩ := hxs y (List.mem_of_getElem? hy)
  have c1 := hcell j (.string s) hy
  clear hcell hy
  go_wp2_with fail
  go_ret
  exact ⟨s, rfl, hs, hg1, hc1⟩
theorem l4Day_any (g : Nat) (w : World) (hc : Cur w g) :
    Calls Try.prog 58 #[.pointer (some ⟨g, 0, none⟩)] w fun e w' => ∃ x : Int, e = .returned (.int .i64 x) ∧ i64 x ∧ w.grownBy w' (some g) ∧ Cur w' g := by
  have hlt := hc.lt
  go_enter Try.func58, Try.ntmps58
  go_wp2_with fail
  refine (l1Once_any g _ _ hc (by omega)).mono ?_; rintro e w1 ⟨b, rfl, hg1, hc1⟩
  have hlt1 := hc1.lt
  cases b
  · go_wp2_with fail
    refine (l1Below_any g _ _ hc1 (by omega)).mono ?_; rintro e w2 ⟨x, rfl, hx0, hx1, -, hg2, hc2⟩
    go_wp2_with fail
    go_ret
    exact ⟨x, rfl, ⟨by omega, by omega⟩, hg1.trans hg2, hc2⟩
  · go_wp2_with fail
    refine (l1PickInt_any g _ _ _ [-1, 999, 1000, 998, -9223372036854775808, 9223372036854775807] _ (hc1.below (below_box _ _)) (RS_new (by simp)) (by simp [i64]) (by omega) (by omega) (fun a e => by injection e with e; subst e; show w1.heap.size ≠ g; omega)).mono ?_; rintro e w2 ⟨x, rfl, hx, hg2, hc2⟩
    go_wp2_with fail
    go_ret
    exact ⟨x, rfl, hx, (hg1.trans (World.grownBy_alloc w1 _ _)).trans hg2, hc2⟩
theorem l35Account_any (g : Nat) (w : World) (hc : Cur w g) :
    Calls Try.prog 68 #[.pointer (some ⟨g, 0, none⟩)] w fun e w' => ∃ s : ByteArray, e = .returned (.string s) ∧ s.size ≤ 12 ∧ w.grownBy w' (some g) ∧ Cur w' g := by
  have hlt := hc.lt
  go_enter Try.func68, Try.ntmps68
  go_wp2_with fail
  refine (l1Pick_any g _ _ _ _ _ (hc.below (below_box _ _)) (RS_new (by simp)) (by
    intro u hu
    simp only [List.mem_cons, List.not_mem_nil, or_false] at hu
    rcases hu with h | h | h | h | h | h <;> exact ⟨_, h, by decide⟩) (by omega) (by omega) (fun a e => by injection e with e; subst e; show w.heap.size ≠ g; omega)).mono ?_; rintro e w2 ⟨x, rfl, hx, hg2, hc2⟩
  go_wp2_with fail
  go_ret
  exact ⟨x, rfl, hx, (World.grownBy_alloc w _ _).trans hg2, hc2⟩
theorem grown_own {w w' w'' : World} {r row : Option Nat} (h : w.grownBy w' r) (k : w'.grownBy w'' row) (hr : ∀ j, row = some j → w.heap.size ≤ j) : w.grownBy w'' r :=
  ⟨k.os.trans h.os, k.tape.trans h.tape, k.output.trans h.output, Nat.le_trans h.size k.size, fun j hj hne => (k.block j (Nat.lt_of_lt_of_le hj h.size) (fun e => by have := hr j e.symm; omega)).trans (h.block j hj hne)⟩
theorem cur_grown {w w' : World} {g : Nat} {row : Option Nat} (h : Cur w g) (k : w.grownBy w' row) (hr : ∀ j, row = some j → g < j) : Cur w' g := by
  have hlt := h.lt
  obtain ⟨A, n, c, i, x, bs, hh, hrr, h1, h2, h3, h4⟩ := h
  refine ⟨A, n, c, i, x, bs, (k.block g hlt (fun e => by have := hr g e.symm; omega)).trans hh, hrr.grown k (fun a e hn he => ?_), h1, h2, h3, h4⟩
  have := h4 a e hn
  have := hr _ he.symm
  omega
/-- Entries drawn by cursor g: some, and not many. -/
def enShort (x : En) : Prop := x.acc.size ≤ 12 ∧ i64 x.amt
def DrawnEnts (g : Nat) (w : World) (e : Ending) (w' : World) : Prop :=
  ∃ (A : Option Addr) (n c : Nat) (l : List En), e = .returned (.slice A n c) ∧ w'.ownsRow w.heap.size 47 2 (.slice A n c) n (l.flatMap enCell) ∧ n ≤ 4 ∧ (∀ x ∈ l, enShort x) ∧ w.grownBy w' (some g) ∧ Cur w' g
theorem snoc_mem {α : Type} {P : α → Prop} {l : List α} {y : α} (h : ∀ x ∈ l, P x) (hy : P y) : ∀ x ∈ l ++ [y], P x := by
  intro x hx
  rcases List.mem_append.1 hx with h1 | h1
  · exact h x h1
  · rw [List.mem_singleton.1 h1]; exact hy
theorem set_mem {α : Type} {P : α → Prop} {l : List α} {y : α} {j : Nat} (h : ∀ x ∈ l, P x) (hy : P y) : ∀ x ∈ l.set j y, P x := by
  intro x hx
  rcases List.mem_or_eq_of_mem_set hx with h1 | h1
  · exact h x h1
  · rw [h1]; exact hy
set_option maxRecDepth 100000 in
set_option maxHeartbeats 4000000 in
theorem l35Entries_any (g : Nat) (w : World) (hc : Cur w g) :
    Calls Try.prog 59 #[.pointer (some ⟨g, 0, none⟩)] w (DrawnEnts g w) := by
  have hlt := hc.lt
  obtain ⟨i0, hi, hz0, hz1, hz2⟩ := info_parts enInfo
  go_enter Try.func59, Try.ntmps59
  go_wp2_with fail
  refine (l1Below_any g _ _ (hc.below (below_box _ _)) (by omega)).mono ?_; rintro e w1 ⟨m0, rfl, hm0, -, hm1, hg1, hc1⟩
  have hm2 := hm1 (by omega)
  have ho1 := row_grown (own_empty w w.heap.size 47 2 (Nat.le_refl _)) hg1 (cur_apart (own_empty w w.heap.size 47 2 (Nat.le_refl _)) hlt)
  have G1 := (World.grownBy_alloc w (Obj.cells #[] 47) (some g)).trans hg1
  clear hg1 hc hm1
  go_wp2_with fail
  go_loopw [3, 4, 5] (fun v sm i wr => ∃ (m s : Int) (A : Option Addr) (n c : Nat) (l : List En), 0 ≤ m ∧ m ≤ 3 ∧ n + m = 1 + m0 ∧ i = .int .i64 m ∧ sm = .int .i64 s ∧ -(100 * n) ≤ s ∧ s ≤ 100 * n ∧ v = .slice A n c ∧ wr.ownsRow w.heap.size 47 2 (.slice A n c) n (l.flatMap enCell) ∧ Hid (∀ x ∈ l, enShort x) ∧ w.grownBy wr (some g) ∧ Cur wr g) (fun _ _ i _ => (intOf i).toNat)
  case atStart => exact ⟨1 + m0, 0, _, 0, _, [], by omega, by omega, by omega, rfl, rfl, by omega, by omega, rfl, ho1, by simp [Hid], G1, hc1⟩
  case round =>
    obtain ⟨m, s, A, n, c, l, hm, hm3, hnm, rfl, rfl, hs1, hs2, rfl, ho, hok, hg, hc⟩ := hrel
    clear ho1 G1 hc1
    have hz := hg.size
    by_cases h0 : 0 < m
    · go_wp2_with fail
      refine (l35Account_any g _ hc).mono ?_; rintro e w2 ⟨acc, rfl, hacc, hg2, hc2⟩
      have ho2 := row_grown ho hg2 (cur_apart ho hlt)
      go_wp2_with fail
      refine (l1Below_any g _ _ hc2 (by omega)).mono ?_; rintro e w3 ⟨y, rfl, hy0, -, hy1, hg3, hc3⟩
      have hy2 := hy1 (by omega)
      have ho3 := row_grown ho2 hg3 (cur_apart ho2 hlt)
      have G3 := (hg.trans hg2).trans hg3
      have z3 := G3.size
      clear hy1 ho ho2 hg hg2 hg3 hc hc2
      have hn3 : n ≤ 3 := by omega
      by_cases hy : y - 99 = 0
      · have OB := (ho3.alloc (Obj.cells #[.string acc, .int .i64 100] 47)).alloc (Obj.cells #[.string acc, .int .i64 100] 47)
        go_wp2_with (at_builtin; refine wpList_app _ rfl _ _ _ rfl w.heap.size 47 i0 _ 2 24 Try.underlying25 hi hz0 hz1 hz2 rfl (by omega) _ n (l.flatMap enCell) rfl OB _ 1 1 (enCell ⟨acc, 100⟩) rfl (RS_new2 (by simp)) (enCell_one _) (by unfold maxLen; omega) (by omega) (by simp; omega) ?_; intro A4 c4 w4 o4 g4 at4 b4)
        have o5 : w4.ownsRow w.heap.size 47 2 (.slice A4 (n + 1) c4) (n + 1) ((l ++ [(⟨acc, 100⟩ : En)]).flatMap enCell) := by rw [flat_append, flat_one]; exact o4
        have G4 := grown_own ((G3.trans (World.grownBy_alloc w3 (Obj.cells #[.string acc, .int .i64 100] 47) _)).trans (World.grownBy_alloc _ (Obj.cells #[.string acc, .int .i64 100] 47) _)) g4 (fun j hj => (OB.lt j hj).1)
        have C4 := cur_grown ((hc3.below (below_box w3 (Obj.cells #[.string acc, .int .i64 100] 47))).below (below_box _ (Obj.cells #[.string acc, .int .i64 100] 47))) g4 (fun j hj => by have := (OB.lt j hj).1; omega)
        have OK4 : ∀ x ∈ l ++ [(⟨acc, 100⟩ : En)], enShort x := snoc_mem hok.out ⟨hacc, by constructor <;> simp only <;> omega⟩
        clear o4 g4 at4 b4 OB ho3 hc3 G3
        go_roundw
        case rel => exact ⟨m - 1, _, A4, n + 1, c4, _, by omega, by omega, by omega, by go_num, rfl, by omega, by omega, rfl, o5, OK4, G4, C4⟩
        case measure => simp [intOf]; omega
      · have OB := (ho3.alloc (Obj.cells #[.string acc, .int .i64 (y - 99)] 47)).alloc (Obj.cells #[.string acc, .int .i64 (y - 99)] 47)
        go_wp2_with (at_builtin; refine wpList_app _ rfl _ _ _ rfl w.heap.size 47 i0 _ 2 24 Try.underlying25 hi hz0 hz1 hz2 rfl (by omega) _ n (l.flatMap enCell) rfl OB _ 1 1 (enCell ⟨acc, (y - 99)⟩) rfl (RS_new2 (by simp)) (enCell_one _) (by unfold maxLen; omega) (by omega) (by simp; omega) ?_; intro A4 c4 w4 o4 g4 at4 b4)
        have o5 : w4.ownsRow w.heap.size 47 2 (.slice A4 (n + 1) c4) (n + 1) ((l ++ [(⟨acc, (y - 99)⟩ : En)]).flatMap enCell) := by rw [flat_append, flat_one]; exact o4
        have G4 := grown_own ((G3.trans (World.grownBy_alloc w3 (Obj.cells #[.string acc, .int .i64 (y - 99)] 47) _)).trans (World.grownBy_alloc _ (Obj.cells #[.string acc, .int .i64 (y - 99)] 47) _)) g4 (fun j hj => (OB.lt j hj).1)
        have C4 := cur_grown ((hc3.below (below_box w3 (Obj.cells #[.string acc, .int .i64 (y - 99)] 47))).below (below_box _ (Obj.cells #[.string acc, .int .i64 (y - 99)] 47))) g4 (fun j hj => by have := (OB.lt j hj).1; omega)
        have OK4 : ∀ x ∈ l ++ [(⟨acc, (y - 99)⟩ : En)], enShort x := snoc_mem hok.out ⟨hacc, by constructor <;> simp only <;> omega⟩
        clear o4 g4 at4 b4 OB ho3 hc3 G3
        go_roundw
        case rel => exact ⟨m - 1, _, A4, n + 1, c4, _, by omega, by omega, by omega, by go_num, rfl, by omega, by omega, rfl, o5, OK4, G4, C4⟩
        case measure => simp [intOf]; omega
    · obtain rfl : m = 0 := by omega
      have hn1 : 1 ≤ n := by omega
      have hn4 : n ≤ 3 := by omega
      by_cases hs0 : s = 0
      focus
        subst hs0
        obtain ⟨A5, rfl⟩ : ∃ x, x = A := ⟨_, rfl⟩
        obtain ⟨n5, rfl⟩ : ∃ x, x = n := ⟨_, rfl⟩
        obtain ⟨c5, rfl⟩ : ∃ x, x = c := ⟨_, rfl⟩
        obtain ⟨l5, rfl⟩ : ∃ x, x = l := ⟨_, rfl⟩
        have ho5 := ho; have hok5 := hok; have G5 := hg; have hc5 := hc; have hn5 : n5 ≤ 4 := by omega
        clear ho hok hg hc hn4
        go_wp2_with fail
      rotate_left
      focus
        go_wp2_with fail
        refine (l1Once_any g _ _ hc (by omega)).mono ?_; rintro e w2 ⟨b2, rfl, hg2, hc2⟩
        have ho2 := row_grown ho hg2 (cur_apart ho hlt)
        have G2 := hg.trans hg2
        clear ho hg hc hg2
        cases b2
      focus
        go_wp2_with fail
        refine (l35Account_any g _ hc2).mono ?_; rintro e w3 ⟨acc, rfl, hacc, hg3, hc3⟩
        have ho3 := row_grown ho2 hg3 (cur_apart ho2 hlt)
        have G3 := G2.trans hg3
        have z3 := G3.size
        clear ho2 hc2 G2 hg3
        have OB := ho3.alloc (Obj.cells #[.string acc, .int .i64 (-s)] 47)
        have sb : -300 ≤ s ∧ s ≤ 300 := by omega
        go_wp2_with (first
          | (at_builtin; refine wpList_app _ rfl _ _ _ rfl w.heap.size 47 i0 _ 2 24 Try.underlying25 hi hz0 hz1 hz2 rfl (by omega) _ n (l.flatMap enCell) rfl OB _ 1 1 (enCell ⟨acc, -s⟩) rfl (RS_new (by simp)) (enCell_one _) (by unfold maxLen; omega) (by omega) (by simp; omega) ?_; intro A5 c5 w4 o4 g4 at4 b4
             have ho5 : w4.ownsRow w.heap.size 47 2 (.slice A5 (n + 1) c5) (n + 1) ((l ++ [(⟨acc, -s⟩ : En)]).flatMap enCell) := by rw [flat_append, flat_one]; exact o4
             have G5 := grown_own (G3.trans (World.grownBy_alloc w3 (Obj.cells #[.string acc, .int .i64 (-s)] 47) _)) g4 (fun j hj => (OB.lt j hj).1)
             have hc5 := cur_grown (hc3.below (below_box w3 (Obj.cells #[.string acc, .int .i64 (-s)] 47))) g4 (fun j hj => by have := (OB.lt j hj).1; omega)
             have hok5 : Hid (∀ x ∈ l ++ [(⟨acc, -s⟩ : En)], enShort x) := snoc_mem hok.out ⟨hacc, by constructor <;> simp only <;> omega⟩
             obtain ⟨n5, hn50⟩ : ∃ x, x = n + 1 := ⟨_, rfl⟩
             obtain ⟨l5, hl5⟩ : ∃ x, x = l ++ [(⟨acc, -s⟩ : En)] := ⟨_, rfl⟩
             rw [← hn50, ← hl5] at ho5
             rw [← hl5] at hok5
             rw [← hn50]
             have hn5 : n5 ≤ 4 := by omega
             have hn1 : 1 ≤ n5 := by omega
             clear o4 g4 at4 b4 OB ho3 hc3 G3 hok hl5 hn50))
      rotate_left
      focus
        obtain ⟨A5, rfl⟩ : ∃ x, x = A := ⟨_, rfl⟩
        obtain ⟨n5, rfl⟩ : ∃ x, x = n := ⟨_, rfl⟩
        obtain ⟨c5, rfl⟩ : ∃ x, x = c := ⟨_, rfl⟩
        obtain ⟨l5, rfl⟩ : ∃ x, x = l := ⟨_, rfl⟩
        have ho5 := ho2; have hok5 := hok; have G5 := G2; have hc5 := hc2; have hn5 : n5 ≤ 4 := by omega
        clear ho2 hok G2 hc2 hn4
        go_wp2_with fail
      rotate_left
      all_goals
        refine (l1Once_any g _ _ hc5 (by omega)).mono ?_; rintro e w6 ⟨b6, rfl, hg6, hc6⟩
        have ho6 := row_grown ho5 hg6 (cur_apart ho5 hlt)
        have G6 := G5.trans hg6
        clear ho5 G5 hc5 hg6
        cases b6
        · go_wp2_with fail
          go_ret
          exact ⟨A5, n5, c5, l5, rfl, ho6, hn5, hok5.out, G6, hc6⟩
        · go_wp2_with fail
          refine (l1Odd_any g _ hc6).mono ?_; rintro e w7 ⟨od, rfl, hod, hg7, hc7⟩
          have ho7 := row_grown ho6 hg7 (cur_apart ho6 hlt)
          have G7 := G6.trans hg7
          clear ho6 G6 hc6 hg7
          obtain ⟨ga, rfl, hga, hgs, hcs, hfs⟩ := own_addr ho7 (by omega)
          obtain ⟨x0, hx0⟩ : ∃ x0, l5[0]? = some x0 := ⟨_, List.getElem?_eq_getElem (by have := (RS.of_own ho7).flatLen enCell_len (by omega); omega)⟩
          have hc1 := hcs 1 (by omega)
          have hc1' : w7.cell? ⟨ga, 1, none⟩ = some (.int .i64 x0.amt) := by
            rw [hc1]
            have e := flat_get enCell enCell_len l5 0 x0 hx0 1 (by omega)
            rw [Nat.zero_mul, Nat.zero_add] at e
            rw [e]; rfl
          have hf1 := hfs 1
          have SS := ho7.stored 1 (.int .i64 od)
          have HFS := flat_set enCell_len (l := l5) (k := 0) (x := x0) (x' := { x0 with amt := od }) (j := 1) (u := .int .i64 od) (by omega) hx0 rfl
          rw [Nat.zero_mul, Nat.zero_add] at HFS
          rw [HFS] at SS
          have OK7 := Lib.hid (set_mem (j := 0) hok5.out (show enShort { x0 with amt := od } from ⟨(hok5.out x0 (List.mem_of_getElem? hx0)).1, hod⟩))
          have G8 := grown_own G7 SS.2 (fun j hj => by injection hj with hj; omega)
          have C8 := cur_grown hc7 SS.2 (fun j hj => by injection hj with hj; omega)
          clear hcs hfs hc1 hx0
          go_wp2_with fail
          go_ret
          exact ⟨_, n5, c5, _, rfl, SS.1, hn5, OK7.out, G8, C8⟩
end Go.Proofs.Ytefhgilnfdmnlaa
