/- The walks of AddEntries. No condition. -/
import Derived.Test.YtefhgilnfdmnlaaTotals
import Derived.Test.YtefhgilnfdmnlaaTrialS
namespace Go.Proofs.Ytefhgilnfdmnlaa
open Go.ChangeShapes Go.WideShapes Go.ChangeAt Go.RowKit

def enWide (x : En) : Bool := isCode x.acc && inB x.amt (-1000000000000) 1000000000000
def addOk (a b : List En) : Bool := decide (a.length + b.length ≤ 1001) && (a ++ b).all enWide
def addOut (a b : List En) : List En := if addOk a b then trialE (a ++ b) else []
theorem addOut_len (a b : List En) : (addOut a b).length ≤ 1001 := by
  unfold addOut
  split
  · rename_i h
    have := trialE_len (a ++ b)
    simp only [addOk, Bool.and_eq_true, decide_eq_true_eq] at h
    rw [List.length_append] at this
    omega
  · simp
theorem addOk_long {a b : List En} (h : ¬ a.length + b.length ≤ 1001) : addOk a b = false := by simp [addOk, h]
theorem addOk_bad {a b : List En} {k : Nat} {x : En} (hx : (a ++ b)[k]? = some x) (h : enWide x = false) : addOk a b = false := by
  have : (a ++ b).all enWide = false := by
    rw [List.all_eq_false]; exact ⟨x, List.mem_of_getElem? hx, by simp [h]⟩
  simp only [addOk, this, Bool.and_false]
theorem addOk_good {a b : List En} (hl : a.length + b.length ≤ 1001) (h : ∀ (j : Nat) (x : En), (a ++ b)[j]? = some x → enWide x = true) : addOk a b = true := by
  have : (a ++ b).all enWide = true := by
    rw [List.all_eq_true]; intro x hx
    obtain ⟨j, hj, rfl⟩ := List.getElem_of_mem hx
    exact h j _ (List.getElem?_eq_getElem hj)
  simp only [addOk, this, Bool.and_true, decide_eq_true_eq]
  exact hl
theorem enWide_amt {x : En} (h : enWide x = true) : -1000000000000 ≤ x.amt ∧ x.amt ≤ 1000000000000 := by
  simp only [enWide, Bool.and_eq_true, inB_true] at h; exact h.2
theorem wide_ways (x : En) : isCode x.acc = false ∨ (isCode x.acc = true ∧ inB x.amt (-1000000000000) 1000000000000 = false) ∨ (isCode x.acc = true ∧ inB x.amt (-1000000000000) 1000000000000 = true) := by
  cases isCode x.acc <;> cases inB x.amt (-1000000000000) 1000000000000 <;> simp

set_option maxRecDepth 100000 in
set_option maxHeartbeats 4000000 in
theorem implAddE (A : Option Addr) (n c : Nat) (a : List En) (B : Option Addr) (m d : Nat) (b : List En) (w : World) (hr : RS w 2 A n (a.flatMap enCell)) (hn : n ≤ 1048600) (hs : RS w 2 B m (b.flatMap enCell)) (hm : m ≤ 1048600) (hoka : ∀ x ∈ a, x.acc.size ≤ 9223372036854775807) (hokb : ∀ x ∈ b, x.acc.size ≤ 9223372036854775807) :
    Calls Try.prog 39 #[.slice A n c, .slice B m d] w fun e w' => ∃ A' c', e = .returned (.tuple #[.slice A' (addOut a b).length c', .bool (addOk a b)]) ∧
      w'.ownsRow w.heap.size 47 2 (.slice A' (addOut a b).length c') (addOut a b).length ((addOut a b).flatMap enCell) ∧ Below w.heap.size w w' := by
  have hla := hr.flatLen enCell_len (by omega)
  have hlb := hs.flatLen enCell_len (by omega)
  have OK := Lib.hid (show ∀ x ∈ a ++ b, x.acc.size ≤ 9223372036854775807 from fun x hx => (List.mem_append.1 hx).elim (hoka x) (hokb x))
  clear hoka hokb
  by_cases hlen : n + m ≤ 1001
  · have HL := Lib.hid (show a.length + b.length ≤ 1001 by omega)
    have LN := Lib.hid (show (a ++ b).length = n + m by rw [List.length_append]; omega)
    obtain ⟨i0, hi, hz0, hz1, hz2⟩ := info_parts enInfo
    have E0 := own_empty w w.heap.size 47 2 (Nat.le_refl _)
    clear hla hlb
    go_enter Try.func39, Try.ntmps39
    go_wp2_with (first
      | (at_builtin; refine wpList_app _ rfl _ _ _ rfl w.heap.size 47 i0 _ 2 24 Try.underlying25 hi hz0 hz1 hz2 rfl (by omega) _ 0 [] rfl E0 A n c (a.flatMap enCell) rfl (hr.alloc _) (flat_one_cell enCell_one _) (by unfold maxLen; omega) (by omega) (by simp) ?_; intro A2 c2 w2 o2 g2 at2 b2
         rw [Nat.zero_add, List.nil_append] at o2
         have B2 := (below_box w (Obj.cells #[] 47)).trans b2
         have z2 := B2.size
         clear g2 at2 b2)
      | (at_builtin; refine wpList_app _ rfl _ _ _ rfl w.heap.size 47 i0 _ 2 24 Try.underlying25 hi hz0 hz1 hz2 rfl (by omega) _ n (a.flatMap enCell) rfl o2 B m d (b.flatMap enCell) rfl (hs.below B2) (flat_one_cell enCell_one _) (by unfold maxLen; omega) (by omega) z2 ?_; intro A3 c3 w3 o3 g3 at3 b3
         rw [← flat_append] at o3
         have B3 := B2.trans b3
         clear g3 at3 b3))
    have r3 := RS.of_own o3
    have z3 := B3.size
    go_loopw [22] (fun i wr => ∃ k : Nat, k ≤ n + m ∧ i = .int .i64 k ∧ Below w3.heap.size w3 wr ∧ Hid (∀ (j : Nat) (x : En), j < k → (a ++ b)[j]? = some x → enWide x = true)) (fun i _ => n + m - (intOf i).toNat)
    case atStart => exact ⟨0, Nat.zero_le _, rfl, Below.refl _ _, fun j x h => absurd h (Nat.not_lt_zero _)⟩
    case round =>
      obtain ⟨k, hk, rfl, hb, hgood⟩ := hrel
      have zb := hb.size
      by_cases hlt : k < n + m
      · obtain ⟨g, off, rfl, ⟨acc, amt⟩, hx, h0, h1⟩ := (r3.below hb).enAt hlt
        have hsz := OK.out _ (List.mem_of_getElem? hx)
        simp only at h0 h1 hsz
        have HX := Lib.hid hx; clear hx
        have i1 : (0 : Int) ≤ k := by omega
        have i2 : (k : Int) < n + m := by omega
        rcases wide_ways ⟨acc, amt⟩ with q1 | ⟨q1, q2⟩ | ⟨q1, q2⟩
        case inl =>
          simp only at q1
          have BAD := Lib.hid (addOk_bad HX.out (show enWide ⟨acc, amt⟩ = false by simp [enWide, q1]))
          have OUT := Lib.hid (show addOut a b = [] by rw [addOut, BAD.out]; rfl)
          go_wp2_with (go_at_call 49; refine (implIsCode _ _ hsz).mono ?_; rw [q1]; rintro e w' ⟨rfl, rfl⟩)
          go_ret2
          rw [OUT.out, BAD.out]
          exact ⟨_, _, rfl, World.ownsRow_nil _ _ _ _, (below_app B3 hb z3).alloc (by omega) _⟩
        case inr.inl =>
          simp only at q1 q2
          have BAD := Lib.hid (addOk_bad HX.out (show enWide ⟨acc, amt⟩ = false by simp [enWide, q2]))
          have OUT := Lib.hid (show addOut a b = [] by rw [addOut, BAD.out]; rfl)
          go_wp2_with (first | (go_at_call 49; refine (implIsCode _ _ hsz).mono ?_; rw [q1]; rintro e w' ⟨rfl, rfl⟩) | (go_at_call 50; refine (impl_in _ _ _ _).mono ?_; rw [q2]; rintro e w' ⟨rfl, rfl⟩))
          go_ret2
          rw [OUT.out, BAD.out]
          exact ⟨_, _, rfl, World.ownsRow_nil _ _ _ _, (below_app B3 hb z3).alloc (by omega) _⟩
        case inr.inr =>
          simp only at q1 q2
          have GOOD := Lib.hid (show enWide ⟨acc, amt⟩ = true by simp [enWide, q1, q2])
          go_wp2_with (first | (go_at_call 49; refine (implIsCode _ _ hsz).mono ?_; rw [q1]; rintro e w' ⟨rfl, rfl⟩) | (go_at_call 50; refine (impl_in _ _ _ _).mono ?_; rw [q2]; rintro e w' ⟨rfl, rfl⟩))
          go_roundw
          case rel =>
            refine ⟨k + 1, by omega, by go_num, hb.alloc zb _, fun j y hj hy => ?_⟩
            rcases Nat.lt_succ_iff_lt_or_eq.1 hj with h | rfl
            · exact hgood.out j y h hy
            · rw [HX.out] at hy; injection hy with hy; rw [← hy]; exact GOOD.out
          case measure => simp [intOf]; omega
      · obtain rfl : k = n + m := by omega
        have AG := Lib.hid (addOk_good HL.out fun j x hx => hgood.out j x (by rw [← LN.out]; exact (List.getElem?_eq_some_iff.1 hx).1) hx)
        have OUT := Lib.hid (show addOut a b = trialE (a ++ b) by rw [addOut, if_pos AG.out])
        have GA := Lib.hid (show ∀ x ∈ a ++ b, -1000000000000 ≤ x.amt ∧ x.amt ≤ 1000000000000 from fun x hx => by
          obtain ⟨j, hj, rfl⟩ := List.getElem_of_mem hx
          exact enWide_amt (hgood.out j _ (by rw [← LN.out]; exact hj) (List.getElem?_eq_getElem hj)))
        clear hgood
        go_wp2_with fail
        refine (implTotals _ _ _ (a ++ b) _ (r3.below hb) (by omega) OK.out GA.out).mono ?_; rintro e w7 ⟨A7, c7, rfl, o7, hb7⟩
        go_wp2_with fail
        go_ret2
        rw [OUT.out, AG.out]
        exact ⟨A7, c7, rfl, own_base o7 (Nat.le_trans z3 zb), below_app (below_app B3 hb z3) hb7 (Nat.le_trans z3 zb)⟩
  · have BAD := Lib.hid (addOk_long (a := a) (b := b) (by omega))
    have OUT := Lib.hid (show addOut a b = [] by rw [addOut, BAD.out]; rfl)
    clear hla hlb
    go_enter Try.func39, Try.ntmps39
    go_wp2_with fail
    go_ret2
    rw [OUT.out, BAD.out]
    exact ⟨_, _, rfl, World.ownsRow_nil _ _ _ _, Below.refl _ _⟩
set_option maxRecDepth 100000 in
set_option maxHeartbeats 4000000 in
theorem specAddE (A : Option Addr) (n c : Nat) (a : List En) (B : Option Addr) (m d : Nat) (b : List En) (w : World) (hr : RS w 2 A n (a.flatMap enCell)) (hn : n ≤ 1048600) (hs : RS w 2 B m (b.flatMap enCell)) (hm : m ≤ 1048600) (hoka : ∀ x ∈ a, x.acc.size ≤ 9223372036854775807) (hokb : ∀ x ∈ b, x.acc.size ≤ 9223372036854775807) :
    Calls Try.prog 38 #[.slice A n c, .slice B m d] w fun e w' => ∃ A' c', e = .returned (.tuple #[.slice A' (addOut a b).length c', .bool (addOk a b)]) ∧
      w'.ownsRow w.heap.size 47 2 (.slice A' (addOut a b).length c') (addOut a b).length ((addOut a b).flatMap enCell) ∧ Below w.heap.size w w' := by
  have hla := Lib.hid (hr.flatLen enCell_len (by omega))
  have hlb := Lib.hid (hs.flatLen enCell_len (by omega))
  have OK := Lib.hid (show ∀ x ∈ a ++ b, x.acc.size ≤ 9223372036854775807 from fun x hx => (List.mem_append.1 hx).elim (hoka x) (hokb x))
  clear hoka hokb
  have LN := Lib.hid (show (a ++ b).length = n + m by rw [List.length_append, hla.out, hlb.out])
  have E0 := own_empty w w.heap.size 47 2 (Nat.le_refl _)
  go_enter Try.func38, Try.ntmps38
  go_wp2
  go_loopw [6, 7] (fun v i wr => ∃ (k : Nat) (A' : Option Addr) (c' : Nat), k ≤ n + m ∧ k ≤ 1001 ∧ i = .int .i64 k ∧ v = .slice A' (trialE ((a ++ b).take k)).length c' ∧ wr.ownsRow w.heap.size 47 2 (.slice A' (trialE ((a ++ b).take k)).length c') (trialE ((a ++ b).take k)).length ((trialE ((a ++ b).take k)).flatMap enCell) ∧ Below w.heap.size w wr ∧ Hid (∀ (j : Nat) (x : En), j < k → (a ++ b)[j]? = some x → enWide x = true)) (fun _ i _ => n + m - (intOf i).toNat)
  case atStart => exact ⟨0, _, _, Nat.zero_le _, by omega, rfl, rfl, E0, below_box w _, fun j x h => absurd h (Nat.not_lt_zero _)⟩
  case round =>
    obtain ⟨k, A', c', hk, hk1, rfl, rfl, oo, hb, hgood⟩ := hrel
    have zb := hb.size
    by_cases hlt : k < n + m
    · obtain ⟨acc, amt, hx, CX⟩ : ∃ acc amt, (a ++ b)[k]? = some ⟨acc, amt⟩ ∧
        ((∃ g off, k < n ∧ A = some ⟨g, off, none⟩ ∧ w.cell? ⟨g, off + k * 2, none⟩ = some (.string acc) ∧ w.cell? ⟨g, off + k * 2 + 1, none⟩ = some (.int .i64 amt)) ∨
         (∃ g off j, ¬ k < n ∧ k = n + j ∧ j < m ∧ B = some ⟨g, off, none⟩ ∧ w.cell? ⟨g, off + j * 2, none⟩ = some (.string acc) ∧ w.cell? ⟨g, off + j * 2 + 1, none⟩ = some (.int .i64 amt))) := by
        by_cases hkn : k < n
        · obtain ⟨g, off, e, ⟨acc, amt⟩, hx, h0, h1⟩ := hr.enAt hkn
          exact ⟨acc, amt, by rw [List.getElem?_append_left (by rw [hla.out]; exact hkn)]; exact hx, .inl ⟨g, off, hkn, e, h0, h1⟩⟩
        · obtain ⟨g, off, e, ⟨acc, amt⟩, hx, h0, h1⟩ := hs.enAt (k := k - n) (by omega)
          exact ⟨acc, amt, by rw [List.getElem?_append_right (by rw [hla.out]; omega), hla.out]; exact hx, .inr ⟨g, off, k - n, hkn, by omega, by omega, e, h0, h1⟩⟩
      have E1 := own_empty (wr.alloc (Obj.cells #[.string acc, .int .i64 amt] 47)) w.heap.size 47 2 (by simp; omega)
      rw [World.size_alloc] at E1
      have hsz := OK.out _ (List.mem_of_getElem? hx)
      simp only at hsz
      have HX := Lib.hid hx; clear hx
      have i1 : (0 : Int) ≤ k := by omega
      have i2 : (k : Int) < n + m := by omega
      have TS := Lib.hid (trialE_take HX.out)
      simp only at TS
      have GA := Lib.hid (show ∀ x ∈ (a ++ b).take k, -1000000000000 ≤ x.amt ∧ x.amt ≤ 1000000000000 from fun x hx => by
        obtain ⟨j, hj, rfl⟩ := List.getElem_of_mem hx
        rw [List.length_take] at hj
        exact enWide_amt (hgood.out j _ (by omega) (by rw [List.getElem_take]; exact List.getElem?_eq_getElem _)))
      have TL := trialE_len ((a ++ b).take k)
      rw [List.length_take] at TL
      have TL2 : (trialE ((a ++ b).take k)).length ≤ 1001 := by omega
      have AM := Lib.hid (show ∀ x ∈ trialE ((a ++ b).take k), -1002000000000000 ≤ x.amt ∧ x.amt ≤ 1002000000000000 from fun x hx => by
        have e := (trialE_amt hx).2
        have b := sumAcc_bd (l := (a ++ b).take k) (M := 1000000000000) (by omega) GA.out x.acc
        rw [← e, List.length_take] at b
        omega)
      have hcc : (trialE ((a ++ b).take k)).length ≤ c' := by
        obtain ⟨_, _, e, h, _⟩ := own_slice oo
        injection e with _ _ e3; omega
      clear TL
      have K2 : k ≤ 1000 ∨ k = 1001 := by omega
      have G1 : k ≤ 1000 → ¬ (1000 : Int) < (k : Int) := fun h => by omega
      have G2 : k = 1001 → (1000 : Int) < (k : Int) := fun h => by omega
      rcases CX with ⟨g, off, hkn, rfl, h0w, h1w⟩ | ⟨g, off, j, hkn, rfl, hjm, rfl, h0w, h1w⟩
      all_goals
        have h0 := cell_keep hb h0w; have h1 := cell_keep hb h1w
        have h0 := cell_alloc h0; have h1 := cell_alloc h1
        try simp only [Int.natCast_add] at G1 G2
        clear h0w h1w
        rcases wide_ways ⟨acc, amt⟩ with q1 | ⟨q1, q2⟩ | ⟨q1, q2⟩
        case inl =>
          simp only at q1
          have BAD := Lib.hid (addOk_bad HX.out (show enWide ⟨acc, amt⟩ = false by simp [enWide, q1]))
          have OUT := Lib.hid (show addOut a b = [] by rw [addOut, BAD.out]; rfl)
          go_wp2_with (go_at_call 46; refine (specIsCode _ _ hsz).mono ?_; rw [q1]; rintro e w' ⟨rfl, rfl⟩)
          go_ret2
          rw [OUT.out, BAD.out]
          exact ⟨_, _, rfl, E1, (hb.alloc zb _).alloc (by simp; omega) _⟩
        case inr.inl =>
          simp only at q1 q2
          have BAD := Lib.hid (addOk_bad HX.out (show enWide ⟨acc, amt⟩ = false by simp [enWide, q2]))
          have OUT := Lib.hid (show addOut a b = [] by rw [addOut, BAD.out]; rfl)
          go_wp2_with (first | (go_at_call 46; refine (specIsCode _ _ hsz).mono ?_; rw [q1]; rintro e w' ⟨rfl, rfl⟩) | (go_at_call 47; refine (spec_in _ _ _ _).mono ?_; rw [q2]; rintro e w' ⟨rfl, rfl⟩))
          go_ret2
          rw [OUT.out, BAD.out]
          exact ⟨_, _, rfl, E1, (hb.alloc zb _).alloc (by simp; omega) _⟩
        case inr.inr =>
          simp only at q1 q2
          have GOOD := Lib.hid (show enWide ⟨acc, amt⟩ = true by simp [enWide, q1, q2])
          have qb := inB_true.1 q2
          rcases K2 with hk2 | hk2
          · have g1000 := G1 hk2
            go_wp2_with (first
              | (go_at_call 46; refine (specIsCode _ _ hsz).mono ?_; rw [q1]; rintro e w' ⟨rfl, rfl⟩)
              | (go_at_call 47; refine (spec_in _ _ _ _).mono ?_; rw [q2]; rintro e w' ⟨rfl, rfl⟩)
              | (go_at_call 62; refine (specAdd A' _ c' _ acc amt _ (RS.of_own (oo.alloc _)) (by omega) hcc (fun x hx => by have := AM.out x hx; have := qb; omega)).mono ?_; rintro e w5 ⟨A5, c5, rfl, o5, hb5⟩
                 have o6 := own_base o5 (show w.heap.size ≤ (wr.alloc (Obj.cells #[.string acc, .int .i64 amt] 47)).heap.size by simp; omega)
                 have b6 := below_app (hb.alloc zb (Obj.cells #[.string acc, .int .i64 amt] 47)) hb5 (by simp; omega)
                 rw [← TS.out] at o6
                 clear o5 hb5))
            rw [← TS.out]
            go_roundw
            case rel =>
              refine ⟨_ + 1, A5, c5, by omega, by omega, by go_num, rfl, o6, b6, fun j' y hj hy => ?_⟩
              rcases Nat.lt_succ_iff_lt_or_eq.1 hj with h | rfl
              · exact hgood.out j' y h hy
              · rw [HX.out] at hy; injection hy with hy; rw [← hy]; exact GOOD.out
            case measure => simp [intOf]; omega
          · have g1000 := G2 hk2
            have BAD := Lib.hid (addOk_long (a := a) (b := b) (by rw [hla.out, hlb.out]; omega))
            have OUT := Lib.hid (show addOut a b = [] by rw [addOut, BAD.out]; rfl)
            clear hk2
            go_wp2_with (first | (go_at_call 46; refine (specIsCode _ _ hsz).mono ?_; rw [q1]; rintro e w' ⟨rfl, rfl⟩) | (go_at_call 47; refine (spec_in _ _ _ _).mono ?_; rw [q2]; rintro e w' ⟨rfl, rfl⟩))
            go_ret2
            rw [OUT.out, BAD.out]
            exact ⟨_, _, rfl, E1, (hb.alloc zb _).alloc (by simp; omega) _⟩
    · obtain rfl : k = n + m := by omega
      have AG := Lib.hid (addOk_good (a := a) (b := b) (by rw [hla.out, hlb.out]; omega) fun j x hx => hgood.out j x (by rw [← LN.out]; exact (List.getElem?_eq_some_iff.1 hx).1) hx)
      have OUT := Lib.hid (show trialE ((a ++ b).take (n + m)) = addOut a b by rw [addOut, if_pos AG.out, List.take_of_length_le (by rw [LN.out]; exact Nat.le_refl _)])
      rw [OUT.out] at oo ⊢
      go_wp2_with fail
      go_ret2
      rw [AG.out]
      exact ⟨A', c', rfl, oo, hb⟩
end Go.Proofs.Ytefhgilnfdmnlaa
