/- The walk of the drawing of a standard cost's data. No condition. -/
import Derived.Test.YtnhkpdaogclfjaaDrawBil
namespace Go.Proofs.Ytnhkpdaogclfjaa
open Go.ChangeShapes Go.WideShapes Go.ChangeAt Go.RowKit

theorem LinesO.base {w : World} {lo lo' n c : Nat} {A : Option Addr} {ds : List Bl} (h : LinesO w lo A n c ds) (hl : lo' ≤ lo) : LinesO w lo' A n c ds := by
  obtain ⟨vs, h1, h2, h3⟩ := h
  exact ⟨vs, own_base h1 hl, h2, fun i x d hx hd => let ⟨a, b⟩ := h3 i x d hx hd; ⟨a, own_base b hl⟩⟩
/-- A case drawn by cursor g. -/
def DrawnCase (g : Nat) (w : World) (e : Ending) (w' : World) : Prop :=
  ∃ (Ac : Option Addr) (nc cc : Nat) (cat : List It) (A : Option Addr) (n c : Nat) (l : List Bl) (s : ByteArray), e = .returned (.tuple #[.slice Ac nc cc, .slice A n c, .string s]) ∧
    w'.ownsRow w.heap.size 64 8 (.slice Ac nc cc) nc (cat.flatMap itCell) ∧ LinesO w' w.heap.size A n c l ∧ 0 < nc ∧ nc ≤ 6 ∧ n ≤ 9 ∧ (∀ x ∈ cat, itOk x) ∧ (∀ x ∈ l, billOk x) ∧ w.grownBy w' (some g) ∧ Cur w' g
set_option maxRecDepth 100000 in
set_option maxHeartbeats 2000000 in
theorem l10Case_any (g : Nat) (w : World) (hc : Cur w g) :
    Calls Try.prog 55 #[.pointer (some ⟨g, 0, none⟩)] w (DrawnCase g w) := by
  have hlt := hc.lt
  go_enter Try.func55, Try.ntmps55
  go_wp2_with fail
  refine (l8Catalog_any g _ hc).mono ?_; rintro e w1 ⟨Ac, nc, cc, cat, rfl, oc, h0, h6, okc, hg1, C1⟩
  clear hc
  obtain ⟨gc, rfl, hgc, -, -, -⟩ := own_addr oc h0
  have z1 := hg1.size
  have OKC := Lib.hid okc
  clear okc
  go_wp2_with fail
  refine (l9Bills_any g _ _ _ cat _ C1 (RS.of_own oc) h0 h6 (fun a e => by injection e with e; subst e; show gc ≠ g; omega) OKC.out).mono ?_; rintro e w2 ⟨A, n, c, l, rfl, L2, hn, okl, hg2, C2⟩
  have OKL := Lib.hid okl
  have oc2 := row_grown oc hg2 (cur_apart oc hlt)
  have L2 := L2.base z1
  have G2 := hg1.trans hg2
  clear oc hg1 hg2 C1 okl
  go_wp2_with fail
  refine (l1Once_any g _ _ C2 (by omega)).mono ?_; rintro e w3 ⟨b, rfl, hg3, C3⟩
  have oc3 := row_grown oc2 hg3 (cur_apart oc2 hlt)
  have L3 := L2.grown hg3 hlt
  have G3 := G2.trans hg3
  clear oc2 L2 G2 C2 hg3
  cases b
  · obtain ⟨gc', off', hAc, y, hy, x0, -⟩ := (RS.of_own oc3).itAt h0
    obtain ⟨rfl, rfl⟩ : gc = gc' ∧ 0 = off' := by injection hAc with h; injection h with h1 h2; exact ⟨h1, h2⟩
    simp only [Nat.zero_mul, Nat.add_zero] at x0
    clear hAc hy
    have q0 : (0 : Int) < nc := by omega
    go_wp2_with fail
    go_quiet (fail)
    go_wp2_with fail
    refine bodyPost_ret (v := .tuple #[.slice (some ⟨gc, 0, none⟩) nc cc, .slice A n c, .string y.code]) (by simp [results, Try.results55, go_sem]) rfl ⟨_, nc, cc, cat, A, n, c, l, y.code, rfl, ?_, ?_, h0, h6, hn, OKC.out, OKL.out, ?_, ?_⟩
    · exact own_below oc3 (below_drewN (Below.refl w3.heap.size w3) _)
    · exact L3.below (below_drewN (Below.refl w3.heap.size w3) _)
    · exact grown_below G3 (below_drewN (Below.refl w3.heap.size w3) _)
    · exact C3.below (below_drewN (Below.refl w3.heap.size w3) _)
  · go_wp2_with fail
    refine (l1Code_any g _ C3).mono ?_; rintro e w4 ⟨s, rfl, hs, hg4, C4⟩
    have oc4 := row_grown oc3 hg4 (cur_apart oc3 hlt)
    have L4 := L3.grown hg4 hlt
    have G4 := G3.trans hg4
    clear oc3 L3 G3 C3 hg4
    go_wp2_with fail
    refine bodyPost_ret (v := .tuple #[.slice (some ⟨gc, 0, none⟩) nc cc, .slice A n c, .string s]) (by simp [results, Try.results55, go_sem]) rfl ⟨_, nc, cc, cat, A, n, c, l, s, rfl, oc4, L4, h0, h6, hn, OKC.out, OKL.out, G4, C4⟩
/-- A standard cost's data, drawn. -/
def DrawnStd (w : World) (e : Ending) (w' : World) : Prop :=
  ∃ (Ac : Option Addr) (nc cc : Nat) (cat : List It) (A : Option Addr) (n c : Nat) (l : List Bl) (P : Option Addr) (np cp : Nat) (pr : List Nd) (s : ByteArray) (day : Int) (B : Option Addr) (m d : Nat) (ch : List Pk),
    e = .returned (.tuple #[.slice Ac nc cc, .slice A n c, .slice P np cp, .string s, .int .i64 day, .slice B m d]) ∧
    RS w' 8 Ac nc (cat.flatMap itCell) ∧ BillsR w' A n l ∧ RS w' 2 P np (pr.flatMap ndCell) ∧ RS w' 2 B m (ch.flatMap pkCell) ∧ nc ≤ 6 ∧ n ≤ 9 ∧ np ≤ 6 ∧ m ≤ 3 ∧ (∀ x ∈ cat, itOk x) ∧ (∀ x ∈ l, billOk x) ∧ Below w.heap.size w w'
set_option maxRecDepth 100000 in
set_option maxHeartbeats 2000000 in
theorem DrawStd_any (A : Option Addr) (n c : Nat) (bs : List Int) (w : World) (hr : RS w 1 A n (byteCells bs)) (hbs : ∀ b ∈ bs, 0 ≤ b ∧ b < 256) (hn : n ≤ 1048580) :
    Calls Try.prog 23 #[.slice A n c] w (DrawnStd w) := by
  go_enter Try.func23, Try.ntmps23
  go_wp2_with fail
  refine (l1New_any A n c bs _ hr hbs hn).mono ?_; rintro e w1 ⟨g, rfl, hg0, b1, C1⟩
  have hlt := C1.lt
  go_wp2_with fail
  refine (l10Case_any g _ C1).mono ?_; rintro e w2 ⟨Ac, nc, cc, cat, Al, nl, cl, l, s, rfl, oc2, L2, h0, h6, hnl, okc, okl, hg2, C2⟩
  have OKC := Lib.hid okc; have OKL := Lib.hid okl
  have G2 := below_grown b1 hg2 (by omega) b1.size
  have z2 := hg2.size
  clear C1 hg2 b1 okc okl
  obtain ⟨gc, rfl, hgc, -, -, -⟩ := own_addr oc2 h0
  go_wp2_with fail
  refine (l34Prices_any g _ nc cc cat _ C2 (RS.of_own oc2) h0 h6 (fun a e => by injection e with e; subst e; show gc ≠ g; omega)).mono ?_; rintro e w3 ⟨P, np, cp, pr, rfl, op3, hnp, hg3, C3⟩
  have oc3 := row_grown oc2 hg3 (cur_apart oc2 hlt)
  have L3 := L2.grown hg3 hlt
  have G3 := below_grown G2 hg3 (by omega) G2.size
  have z3 := hg3.size
  clear oc2 L2 G2 C2 hg3
  go_wp2_with fail
  refine (l4Day_any g _ C3).mono ?_; rintro e w4 ⟨day, rfl, -, hg4, C4⟩
  have oc4 := row_grown oc3 hg4 (cur_apart oc3 hlt)
  have L4 := L3.grown hg4 hlt
  have op4 := row_grown op3 hg4 (cur_apart op3 (by omega))
  have G4 := below_grown G3 hg4 (by omega) G3.size
  clear oc3 L3 G3 C3 op3 hg4
  go_wp2_with fail
  refine (l6Choice_any g _ C4).mono ?_; rintro e w5 ⟨B, m, d, ch, rfl, ob5, hm, hg5, C5⟩
  have oc5 := row_grown oc4 hg5 (cur_apart oc4 hlt)
  have L5 := L4.grown hg5 hlt
  have op5 := row_grown op4 hg5 (cur_apart op4 (by omega))
  have G5 := below_grown G4 hg5 (by omega) G4.size
  clear oc4 L4 G4 C4 op4 hg5
  go_wp2_with fail
  refine bodyPost_ret (v := .tuple #[.slice (some ⟨gc, 0, none⟩) nc cc, .slice Al nl cl, .slice P np cp, .string s, .int .i64 day, .slice B m d]) (by simp [results, Try.results23, go_sem]) rfl
    ⟨_, nc, cc, cat, Al, nl, cl, l, P, np, cp, pr, s, day, B, m, d, ch, rfl, RS.of_own oc5, L5.read, RS.of_own op5, RS.of_own ob5, h6, hnl, hnp, hm, OKC.out, OKL.out, G5⟩
end Go.Proofs.Ytnhkpdaogclfjaa
