/- The walks of the drawing of uses, shipments and customers. No condition. -/
import Derived.Test.YtaldlinekipblaaDrawText
import Derived.Test.YtaldlinekipblaaSUse
import Derived.Test.YtaldlinekipblaaSShipment
import Derived.Test.YtaldlinekipblaaSStr
import Derived.Test.YtaldlinekipblaaStep
namespace Go.Proofs.Ytaldlinekipblaa
open Go.ChangeShapes Go.WideShapes Go.ChangeAt Go.RowKit

def bNames : List ByteArray := [⟨#[66, 49]⟩, ⟨#[66, 50]⟩, ⟨#[66, 51]⟩, ⟨#[66, 52]⟩, ⟨#[66, 53]⟩, ⟨#[66, 54]⟩]
theorem bNames_short : ∀ s ∈ bNames, s.size ≤ 12 := by decide
def usShort (x : Us) : Prop := x.frm.size ≤ 12 ∧ x.into.size ≤ 12 ∧ i64 x.q
def cNames : List ByteArray := [⟨#[75, 73, 84]⟩, ⟨#[76, 69, 69]⟩, ⟨#[77, 65, 88]⟩, ⟨#[78, 73, 65]⟩]
def shShort (x : Sh) : Prop := x.batch ∈ bNames ∧ x.cust ∈ cNames
theorem cNames_short : ∀ s ∈ cNames, s.size ≤ 12 := by decide
def DrawnText (g : Nat) (w : World) (e : Ending) (w' : World) : Prop := ∃ s : ByteArray, e = .returned (.string s) ∧ s ∈ bNames ∧ w.grownBy w' (some g) ∧ Cur w' g
theorem names_of {s : ByteArray} {l : List ByteArray} {xs : List Value} (e : xs = l.map Value.string) (h : Value.string s ∈ xs) : s ∈ l := by
  subst e
  obtain ⟨x, hx, e⟩ := List.mem_map.1 h
  injection e with e
  subst e; exact hx
def DrawnShips (g : Nat) (w : World) (e : Ending) (w' : World) : Prop := ∃ (A : Option Addr) (n c : Nat) (l : List Sh), e = .returned (.slice A n c) ∧ w'.ownsRow w.heap.size 51 2 (.slice A n c) n (l.flatMap shCell) ∧ n ≤ 8 ∧ (∀ x ∈ l, shShort x) ∧ w.grownBy w' (some g) ∧ Cur w' g
def DrawnUses (g : Nat) (w : World) (e : Ending) (w' : World) : Prop := ∃ (A : Option Addr) (n c : Nat) (l : List Us), e = .returned (.slice A n c) ∧ w'.ownsRow w.heap.size 56 3 (.slice A n c) n (l.flatMap usCell) ∧ n ≤ 8 ∧ (∀ x ∈ l, usShort x) ∧ w.grownBy w' (some g) ∧ Cur w' g
theorem l30Batch_any (g : Nat) (w : World) (hc : Cur w g) : Calls Try.prog 63 #[.pointer (some ⟨g, 0, none⟩)] w (DrawnText g w) := by
  have hlt := hc.lt
  go_enter Try.func63, Try.ntmps63
  go_wp2_with fail
  refine (l1PickIn_any g _ _ _ _ _ (hc.below (below_box _ _)) (RS_new (by simp)) (by
    intro u hu
    simp only [List.mem_cons, List.not_mem_nil, or_false] at hu
    rcases hu with h | h | h | h | h | h <;> exact ⟨_, h⟩) (by omega) (by omega) (fun a e => by injection e with e; subst e; show w.heap.size ≠ g; omega)).mono ?_; rintro e w2 ⟨x, rfl, hx, hg2, hc2⟩
  go_wp2_with fail
  go_ret
  exact ⟨x, rfl, names_of (l := bNames) rfl hx, (World.grownBy_alloc w _ _).trans hg2, hc2⟩
set_option maxRecDepth 100000 in
set_option maxHeartbeats 2000000 in
theorem l30Ships_any (g : Nat) (w : World) (hc : Cur w g) :
    Calls Try.prog 53 #[.pointer (some ⟨g, 0, none⟩)] w (DrawnShips g w) := by
  have hlt := hc.lt
  obtain ⟨i0, hi, hz0, hz1, hz2⟩ := info_parts shInfo
  go_enter Try.func53, Try.ntmps53
  go_wp2_with fail
  refine (l1Below_any g _ _ (hc.below (below_box _ _)) (by omega)).mono ?_; rintro e w1 ⟨m0, rfl, hm0, -, hm1, hg1, hc1⟩
  have hm2 := hm1 (by omega)
  have ho1 := row_grown (own_empty w w.heap.size 51 2 (Nat.le_refl _)) hg1 (cur_apart (own_empty w w.heap.size 51 2 (Nat.le_refl _)) hlt)
  have G1 := (World.grownBy_alloc w (Obj.cells #[] 51) (some g)).trans hg1
  clear hg1 hc hm1
  go_wp2_with fail
  go_loopw [3, 4] (fun v i wr => ∃ (m : Int) (A : Option Addr) (n c : Nat) (l : List Sh), 0 ≤ m ∧ n + m = m0 ∧ i = .int .i64 m ∧ v = .slice A n c ∧ wr.ownsRow w.heap.size 51 2 (.slice A n c) n (l.flatMap shCell) ∧ Hid (∀ x ∈ l, shShort x) ∧ w.grownBy wr (some g) ∧ Cur wr g) (fun _ i _ => (intOf i).toNat)
  case atStart => exact ⟨m0, _, 0, _, [], by omega, by omega, rfl, rfl, ho1, by simp [Hid], G1, hc1⟩
  case round =>
    obtain ⟨m, A, n, c, l, hm, hnm, rfl, rfl, ho, hok, hg, hc⟩ := hrel
    clear ho1 G1 hc1
    have hz := hg.size
    by_cases h0 : 0 < m
    · go_wp2_with fail
      refine (l30Batch_any g _ hc).mono ?_; rintro e w2 ⟨b, rfl, hb, hg2, hc2⟩
      have ho2 := row_grown ho hg2 (cur_apart ho hlt)
      have G2 := hg.trans hg2
      have z2 := G2.size
      clear ho hg hg2 hc hz
      go_wp2_with fail
      refine (l1PickIn_any g _ _ _ _ _ (hc2.below (below_box _ _)) (RS_new (by simp)) (by
        intro u hu
        simp only [List.mem_cons, List.not_mem_nil, or_false] at hu
        rcases hu with h | h | h | h <;> exact ⟨_, h⟩) (by omega) (by omega) (fun a e => by injection e with e; subst e; show w2.heap.size ≠ g; omega)).mono ?_; rintro e w3 ⟨cu, rfl, hcu, hg3, hc3⟩
      have ho3 := row_grown (ho2.alloc _) hg3 (cur_apart ho2 hlt)
      have G3 := (G2.trans (World.grownBy_alloc w2 _ _)).trans hg3
      have z3 := G3.size
      clear ho2 G2 hg3 hc2
      go_wp2_with (at_builtin; refine wpList_app _ rfl _ _ _ rfl w.heap.size 51 i0 _ 2 32 Try.underlying36 hi hz0 hz1 hz2 rfl (by omega) _ n _ rfl (ho3.alloc _) _ 1 1 (shCell ⟨b, cu⟩) rfl (RS_new (by simp)) (shCell_one _) (by unfold maxLen; omega) (by omega) (by simp; omega) ?_; intro A4 c4 w4 o4 g4 at4 b4)
      rw [← flat_one shCell, ← flat_append] at o4
      have G4 := grown_own (G3.trans (World.grownBy_alloc w3 (Obj.cells #[.string b, .string cu] 51) _)) g4 (fun j hj => (ho3.lt j hj).1)
      have C4 := cur_grown (hc3.below (below_box w3 (Obj.cells #[.string b, .string cu] 51))) g4 (fun j hj => by have := (ho3.lt j hj).1; omega)
      have OK4 : Hid (∀ x ∈ l ++ [(⟨b, cu⟩ : Sh)], shShort x) := snoc_mem hok.out ⟨hb, names_of (l := cNames) rfl hcu⟩
      clear g4 at4 b4 ho3 hc3 G3
      go_roundw
      case rel => exact ⟨m - 1, A4, n + 1, c4, _, by omega, by omega, by go_num, rfl, o4, OK4, G4, C4⟩
      case measure => simp [intOf]; omega
    · obtain rfl : m = 0 := by omega
      go_wp2_with fail
      go_ret
      exact ⟨A, n, c, l, rfl, ho, by omega, hok.out, hg, hc⟩
set_option maxRecDepth 100000 in
set_option maxHeartbeats 4000000 in
theorem l30Uses_any (g : Nat) (w : World) (hc : Cur w g) :
    Calls Try.prog 52 #[.pointer (some ⟨g, 0, none⟩)] w (DrawnUses g w) := by
  have hlt := hc.lt
  obtain ⟨i0, hi, hz0, hz1, hz2⟩ := info_parts usInfo
  have NM := Lib.hid (show RS (w.alloc (Obj.cells #[.string ⟨#[66, 49]⟩, .string ⟨#[66, 50]⟩, .string ⟨#[66, 51]⟩, .string ⟨#[66, 52]⟩, .string ⟨#[66, 53]⟩, .string ⟨#[66, 54]⟩] 9)) 1 (some ⟨w.heap.size, 0, none⟩) 6 (bNames.flatMap stCell) from RS_new (by simp))
  have OE := own_empty (w.alloc (Obj.cells #[.string ⟨#[66, 49]⟩, .string ⟨#[66, 50]⟩, .string ⟨#[66, 51]⟩, .string ⟨#[66, 52]⟩, .string ⟨#[66, 53]⟩, .string ⟨#[66, 54]⟩] 9)) (w.heap.size + 1) 56 3 (by simp)
  simp only [World.size_alloc] at OE
  go_enter Try.func52, Try.ntmps52
  go_wp2_with fail
  refine (l1Below_any g _ _ ((hc.below (below_box _ _)).below (below_box _ _)) (by omega)).mono ?_; rintro e w1 ⟨m0, rfl, hm0, -, hm1, hg1, hc1⟩
  have hm2 := hm1 (by omega)
  have ho1 := row_grown OE hg1 (cur_apart OE (by omega))
  have N1 := (NM.out.alloc (Obj.cells #[] 56)).grown hg1 (fun a e _ he => by injection e with e; subst e; injection he with he; simp only at he; omega)
  have G1 := ((World.grownBy_alloc w _ (some g)).trans (World.grownBy_alloc _ (Obj.cells #[] 56) (some g))).trans hg1
  clear hg1 hc hm1 OE NM
  go_wp2_with fail
  go_loopw [4, 5] (fun v i wr => ∃ (m : Int) (A : Option Addr) (n c : Nat) (l : List Us), 0 ≤ m ∧ n + m = m0 ∧ i = .int .i64 m ∧ v = .slice A n c ∧ wr.ownsRow (w.heap.size + 1) 56 3 (.slice A n c) n (l.flatMap usCell) ∧ Hid (∀ x ∈ l, usShort x) ∧ RS wr 1 (some ⟨w.heap.size, 0, none⟩) 6 (bNames.flatMap stCell) ∧ w.grownBy wr (some g) ∧ Cur wr g ∧ w.heap.size + 1 ≤ wr.heap.size) (fun _ i _ => (intOf i).toNat)
  case atStart => exact ⟨m0, _, 0, _, [], by omega, by omega, rfl, rfl, ho1, by simp [Hid], N1, G1, hc1, by have := ho1; have := N1.at_ (by omega); obtain ⟨_, _, e, hcl⟩ := this; have := World.block_lt_of_cell? _ _ (hcl 0 _ rfl); injection e with e; injection e with e1 e2; simp only at this; omega⟩
  case round =>
    obtain ⟨m, A, n, c, l, hm, hnm, rfl, rfl, ho, hok, N, hg, hc, hz⟩ := hrel
    clear ho1 G1 hc1 N1
    by_cases h0 : 0 < m
    · have NH : Hid (∀ (w' wr : World), RS wr 1 (some ⟨w.heap.size, 0, none⟩) 6 (bNames.flatMap stCell) → wr.grownBy w' (some g) → RS w' 1 (some ⟨w.heap.size, 0, none⟩) 6 (bNames.flatMap stCell)) := fun _ _ h hg => h.grown hg (fun a e _ he => by injection e with e; subst e; injection he with he; simp only at he; omega)
      go_wp2_with fail
      refine (l1Below_any g _ _ hc (by omega)).mono ?_; rintro e w2 ⟨a, rfl, ha0, -, ha1, hg2, hc2⟩
      have ha2 := ha1 (by omega)
      have ho2 := row_grown ho hg2 (cur_apart ho (by omega))
      have N2 := NH.out _ _ N hg2
      have G2 := hg.trans hg2
      have z2 := hg2.size
      clear ho N hg hg2 hc ha1
      go_wp2_with fail
      refine (l1Below_any g _ _ hc2 (by omega)).mono ?_; rintro e w3 ⟨b, rfl, hb0, -, hb1, hg3, hc3⟩
      have hb2 := hb1 (by omega)
      have ho3 := row_grown ho2 hg3 (cur_apart ho2 (by omega))
      have N3 := NH.out _ _ N2 hg3
      have G3 := G2.trans hg3
      have z3 := hg3.size
      clear ho2 N2 G2 hg3 hc2 hb1
      obtain ⟨i, rfl⟩ := Int.eq_ofNat_of_zero_le ha0
      obtain ⟨j, hj⟩ := Int.eq_ofNat_of_zero_le (show 0 ≤ (i : Int) + 1 + b by omega)
      obtain ⟨ga, offa, ea, sa, hsa, ca⟩ := N3.stAt (k := i) (by omega)
      obtain ⟨rfl, rfl⟩ : w.heap.size = ga ∧ 0 = offa := by simpa using ea
      obtain ⟨gb, offb, eb, sb, hsb, cb⟩ := N3.stAt (k := j) (by omega)
      obtain ⟨rfl, rfl⟩ : w.heap.size = gb ∧ 0 = offb := by simpa using eb
      have la := bNames_short _ (List.mem_of_getElem? hsa)
      have lb := bNames_short _ (List.mem_of_getElem? hsb)
      rw [Nat.zero_add] at ca cb
      clear ea eb hsa hsb
      have j1 : (0 : Int) ≤ (i : Int) + 1 + b := by omega
      have j2 : (i : Int) + 1 + b < 6 := by omega
      have j3 : ((i : Int) + 1 + b).toNat = j := by omega
      have i1 : (0 : Int) ≤ i := by omega
      have i2 : (i : Int) < 6 := by omega
      have gl3 : g ≠ w.heap.size := by omega
      have wl3 : w.heap.size < w3.heap.size := by omega
      clear hj
      go_wp2_with fail
      go_region_held3 (fun w' => w'.cell? ⟨w.heap.size, i, none⟩ = some (.string sa) ∧ w'.cell? ⟨w.heap.size, j, none⟩ = some (.string sb))
        (first
          | go_keep
          | (go_split_ands; refine ⟨?_, ?_⟩ <;> (rw [b9.cell (by show w.heap.size < w.heap.size + 1; omega)]; assumption))
          | (go_split_ands; refine ⟨?_, ?_⟩ <;> (rw [hg4.cell_far _ (by simp; omega) (by simp; omega)]; assumption)))
        (first
          | (refine step_app _ (by rfl) _ _ _ (by rfl) (w.heap.size + 1) 56 i0 _ 3 40 Try.underlying26 hi hz0 hz1 hz2 rfl (by omega) (.slice A n c) n _ (by rfl) (by first | exact ho4 | exact ho4.drew | exact (ho4.alloc _) | exact (ho4.alloc _).drew | exact (ho4.drew.alloc _) | exact (ho4.drew.alloc _).drew) _ 1 1 (usCell ⟨sa, sb, IntKind.i64.wrap (1 + q)⟩) (by rfl) (by first | exact RS_new (by simp) | exact (RS_new (by simp)).drewN 1) (usCell_one _) (by unfold maxLen; omega) (by omega) (by simp; omega) ?_; intro A9 c9 w9 o9 g9 at9 b9)
          | (go_at_call 54; refine (l1Below_any g 9 _ (by first | exact hc3 | exact hc3.below ((Below.refl _ _).drew)) (by omega)).mono ?_; rintro e w4 ⟨q, rfl, hq0, -, hq1, hg4, hc4⟩; have ho4 := row_grown (by first | exact ho3 | exact ho3.drew) hg4 (cur_apart ho3 (by omega)); have hq2 := hq1 (by omega); have z4 := hg4.size; simp at z4; clear hq1))
      have WQ : IntKind.i64.wrap (1 + q) = 1 + q := IntWalk.i64_in _ (by omega)
      rw [← flat_one usCell, ← flat_append, WQ] at o9
      have gw3 := World.grownBy.trans G3 ((grown_below (World.grownBy.refl w3 (some g)) ((Below.refl _ _).drew)).trans hg4)
      rw [WQ] at g9 b9
      have G9 := grown_own (gw3.trans (World.grownBy_alloc w4 (Obj.cells #[.string sa, .string sb, .int .i64 (1 + q)] 56) _)) g9 (fun j hj => by have := (ho4.lt j hj).1; omega)
      have C9 := cur_grown (hc4.below (below_box w4 (Obj.cells #[.string sa, .string sb, .int .i64 (1 + q)] 56))) g9 (fun j hj => by have := (ho4.lt j hj).1; omega)
      have OK9 : Hid (∀ x ∈ l ++ [(⟨sa, sb, 1 + q⟩ : Us)], usShort x) := snoc_mem hok.out ⟨la, lb, by constructor <;> simp only <;> omega⟩
      have N9 : RS w9 1 (some ⟨w.heap.size, 0, none⟩) 6 (bNames.flatMap stCell) := ((NH.out _ _ (N3.drewN 1) hg4).alloc _).grown g9 (fun a e _ he => by injection e with e; subst e; have := (ho4.lt _ he.symm).1; simp only at this; omega)
      have z9 := g9.size
      clear g9 at9 b9 ho4 hc4 hg4 G3 gw3
      go_wp2_with fail
      go_roundw
      case rel => exact ⟨m - 1, A9, n + 1, c9, _, by omega, by omega, by go_num, rfl, o9, OK9, N9, G9, C9, by simp at z9; omega⟩
      case measure => simp [intOf]; omega
    · obtain rfl : m = 0 := by omega
      go_wp2_with fail
      refine (l1Once_any g _ _ hc (by omega)).mono ?_; rintro e w2 ⟨bb, rfl, hg2, hc2⟩
      have ho2 := own_base (row_grown ho hg2 (cur_apart ho (by omega))) (show w.heap.size ≤ w.heap.size + 1 by omega)
      have G2 := hg.trans hg2
      have z2 := hg2.size
      clear ho hg hg2 hc N
      cases bb
      · go_wp2_with fail
        go_ret
        exact ⟨A, n, c, l, rfl, ho2, by omega, hok.out, G2, hc2⟩
      · go_wp2_with fail
        refine (l30Batch_any g _ hc2).mono ?_; rintro e w3 ⟨s1, rfl, hs1, hg3, hc3⟩
        have ho3 := row_grown ho2 hg3 (cur_apart ho2 hlt)
        have G3 := G2.trans hg3
        have z3 := hg3.size
        clear ho2 G2 hg3 hc2
        go_wp2_with fail
        refine (l30Batch_any g _ hc3).mono ?_; rintro e w4 ⟨s2, rfl, hs2, hg4, hc4⟩
        have ho4 := row_grown ho3 hg4 (cur_apart ho3 hlt)
        have G4 := G3.trans hg4
        have z4 := hg4.size
        clear ho3 G3 hg4 hc3
        go_wp2_with fail
        refine (l1Below_any g _ _ hc4 (by omega)).mono ?_; rintro e w5 ⟨q, rfl, hq0, hq3, -, hg5, hc5⟩
        have ho5 := row_grown ho4 hg5 (cur_apart ho4 hlt)
        have G5 := G4.trans hg5
        have z5 := hg5.size
        clear ho4 G4 hg5 hc4
        go_wp2_with (at_builtin; refine wpList_app _ rfl _ _ _ rfl w.heap.size 56 i0 _ 3 40 Try.underlying26 hi hz0 hz1 hz2 rfl (by omega) _ n _ rfl (ho5.alloc _) _ 1 1 (usCell ⟨s1, s2, q⟩) rfl (RS_new (by simp)) (usCell_one _) (by unfold maxLen; omega) (by omega) (by simp; omega) ?_; intro A9 c9 w9 o9 g9 at9 b9)
        rw [← flat_one usCell, ← flat_append] at o9
        have G9 := grown_own (G5.trans (World.grownBy_alloc w5 (Obj.cells #[.string s1, .string s2, .int .i64 q] 56) _)) g9 (fun j hj => (ho5.lt j hj).1)
        have C9 := cur_grown (hc5.below (below_box w5 (Obj.cells #[.string s1, .string s2, .int .i64 q] 56))) g9 (fun j hj => by have := (ho5.lt j hj).1; omega)
        have OK9 : Hid (∀ x ∈ l ++ [(⟨s1, s2, q⟩ : Us)], usShort x) := snoc_mem hok.out ⟨bNames_short _ hs1, bNames_short _ hs2, by constructor <;> simp only <;> omega⟩
        clear g9 at9 b9 ho5 hc5 G5
        go_ret
        exact ⟨A9, n + 1, c9, _, rfl, o9, by omega, OK9.out, G9, C9⟩
def DrawnCase (w : World) (e : Ending) (w' : World) : Prop := ∃ (A : Option Addr) (n c : Nat) (us : List Us) (A' : Option Addr) (n' c' : Nat) (sh : List Sh) (Ac : Option Addr) (nc cc : Nat) (cs : List ByteArray),
  e = .returned (.tuple #[.slice A n c, .slice A' n' c', .slice Ac nc cc]) ∧ RS w' 3 A n (us.flatMap usCell) ∧ n ≤ 8 ∧ (∀ x ∈ us, usShort x) ∧ RS w' 2 A' n' (sh.flatMap shCell) ∧ n' ≤ 8 ∧ (∀ x ∈ sh, shShort x) ∧ RS w' 1 Ac nc (cs.flatMap stCell) ∧ nc ≤ 8 ∧ Below w.heap.size w w'
set_option maxRecDepth 100000 in
set_option maxHeartbeats 4000000 in
theorem DrawSuspectsOf_any (A : Option Addr) (n c : Nat) (bs : List Int) (w : World) (hr : RS w 1 A n (byteCells bs)) (hbs : ∀ b ∈ bs, 0 ≤ b ∧ b < 256) (hn : n ≤ 1048580) :
    Calls Try.prog 30 #[.slice A n c] w (DrawnCase w) := by
  obtain ⟨i0, hi, hz0, hz1, hz2⟩ := info_parts stInfo
  go_enter Try.func30, Try.ntmps30
  go_wp2_with fail
  refine (l1New_any _ _ _ _ _ hr hbs (by omega)).mono ?_; rintro e w1 ⟨g, rfl, hg1, hb1, hc1⟩
  have hlt := hc1.lt
  go_wp2_with fail
  refine (l30Uses_any g _ hc1).mono ?_; rintro e w2 ⟨A2, n2, c2, us, rfl, o2, hn2, hus, hg2, hc2⟩
  have z2 := hg2.size
  go_wp2_with fail
  refine (l30Ships_any g _ hc2).mono ?_; rintro e w3 ⟨A3, n3, c3, sh, rfl, o3, hn3, hsh, hg3, hc3⟩
  have o2 := row_grown o2 hg3 (cur_apart o2 hlt)
  have z3 := hg3.size
  have G3 := hg2.trans hg3
  have US := Lib.hid hus; have SH := Lib.hid hsh
  clear hus hsh hg2 hg3 hc2 hc1
  have OE := own_empty w3 w3.heap.size 9 1 (Nat.le_refl _)
  go_wp2_with fail
  refine (l1Below_any g _ _ (hc3.below (below_box _ _)) (by omega)).mono ?_; rintro e w4 ⟨m0, rfl, hm0, -, hm1, hg4, hc4⟩
  have hm2 := hm1 (by omega)
  have ho1 := row_grown OE hg4 (cur_apart OE (by omega))
  have G1 := (World.grownBy_alloc w3 (Obj.cells #[] 9) (some g)).trans hg4
  clear hg4 hc3 hm1 OE
  go_wp2_with fail
  go_loopw [8, 9] (fun v i wr => ∃ (m : Int) (A : Option Addr) (n c : Nat) (l : List ByteArray), 0 ≤ m ∧ n + m = m0 ∧ i = .int .i64 m ∧ v = .slice A n c ∧ wr.ownsRow w3.heap.size 9 1 (.slice A n c) n (l.flatMap stCell) ∧ w3.grownBy wr (some g) ∧ Cur wr g) (fun _ i _ => (intOf i).toNat)
  case atStart => exact ⟨m0, _, 0, _, [], by omega, by omega, rfl, rfl, ho1, G1, hc4⟩
  case round =>
    obtain ⟨m, A5, n5, c5, l, hm, hnm, rfl, rfl, ho, hg, hc⟩ := hrel
    clear ho1 G1 hc4
    have hz := hg.size
    by_cases h0 : 0 < m
    · go_wp2_with fail
      refine (l1PickIn_any g _ _ _ _ _ (hc.below (below_box _ _)) (RS_new (by simp)) (by
        intro u hu
        simp only [List.mem_cons, List.not_mem_nil, or_false] at hu
        rcases hu with h | h | h | h <;> exact ⟨_, h⟩) (by omega) (by omega) (fun a e => by injection e with e; subst e; show wr.heap.size ≠ g; omega)).mono ?_; rintro e w6 ⟨cu, rfl, hcu, hg6, hc6⟩
      have ho6 := row_grown (ho.alloc _) hg6 (cur_apart ho (by omega))
      have G6 := (hg.trans (World.grownBy_alloc wr _ _)).trans hg6
      have z6 := G6.size
      clear ho hg hg6 hc hcu
      go_wp2_with (at_builtin; refine wpList_app _ rfl _ _ _ rfl w3.heap.size 9 i0 _ 1 16 Try.underlying24 hi hz0 hz1 hz2 rfl (by omega) _ n5 _ rfl (ho6.alloc _) _ 1 1 (stCell cu) rfl (RS_new (by simp)) (stCell_one _) (by unfold maxLen; omega) (by omega) (by simp; omega) ?_; intro A7 c7 w7 o7 g7 at7 b7)
      rw [← flat_one stCell, ← flat_append] at o7
      have G7 := grown_own (G6.trans (World.grownBy_alloc w6 (Obj.cells #[.string cu] 9) _)) g7 (fun j hj => (ho6.lt j hj).1)
      have C7 := cur_grown (hc6.below (below_box w6 (Obj.cells #[.string cu] 9))) g7 (fun j hj => by have := (ho6.lt j hj).1; omega)
      clear g7 at7 b7 ho6 hc6 G6
      go_roundw
      case rel => exact ⟨m - 1, A7, n5 + 1, c7, _, by omega, by omega, by go_num, rfl, o7, G7, C7⟩
      case measure => simp [intOf]; omega
    · obtain rfl : m = 0 := by omega
      go_wp2_with fail
      go_ret3
      exact ⟨A2, n2, c2, us, A3, n3, c3, sh, A5, n5, c5, l, rfl, RS.of_own (row_grown o2 hg (cur_apart o2 hlt)), hn2, US.out, RS.of_own (row_grown o3 hg (cur_apart o3 (by omega))), hn3, SH.out, RS.of_own ho, by omega, below_grown hb1 (G3.trans hg) hg1 hb1.size⟩
end Go.Proofs.Ytaldlinekipblaa
