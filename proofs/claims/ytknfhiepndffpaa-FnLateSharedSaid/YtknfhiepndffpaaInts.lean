/- Lists of ints: their sum, weights, and shares by weights: the plain words, and the walks of sumOf, AreWeights, ShareUpTo and Apportion. -/
import Derived.Test.YtknfhiepndffpaaIn
namespace Go.Proofs.Ytknfhiepndffpaa
open Go.ChangeShapes Go.WideShapes Go.ChangeAt Go.RowKit

abbrev intCells (l : List Int) : List Value := l.map (Value.int .i64)
theorem intCells_len (l : List Int) : (intCells l).length = l.length := List.length_map _
theorem intCells_one (l : List Int) : ∀ u ∈ intCells l, u.oneCell' = true := by
  intro u hu
  obtain ⟨x, _, rfl⟩ := List.mem_map.1 hu
  rfl
section
variable {w : World} {n c base : Nat} {e : TypeId} {A : Option Addr} {l : List Int}
theorem RS.ints (h : RS w 1 A n (intCells l)) : l.length = n := by have := h.len; rw [intCells_len] at this; omega
theorem RS.intAt {k : Nat} (h : RS w 1 A n (intCells l)) (hk : k < n) : ∃ g off, A = some ⟨g, off, none⟩ ∧ ∃ x, l[k]? = some x ∧ w.cell? ⟨g, off + k, none⟩ = some (.int .i64 x) := by
  obtain ⟨g, off, e, hc⟩ := h.at_ (by omega)
  have hl := h.ints
  obtain ⟨x, hx⟩ : ∃ x, l[k]? = some x := ⟨_, List.getElem?_eq_getElem (by omega)⟩
  exact ⟨g, off, e, x, hx, hc k _ (by simp [hx])⟩
theorem RS.intTake {k : Nat} (h : RS w 1 A n (intCells l)) (hk : k ≤ n) : RS w 1 A k (intCells (l.take k)) := by
  have hl := h.ints
  refine ⟨by simp; omega, fun h0 => ?_⟩
  obtain ⟨g, off, e, hc⟩ := h.at_ (by omega)
  refine ⟨g, off, e, fun j u hu => hc j u ?_⟩
  simp only [intCells, List.getElem?_map, List.getElem?_take] at hu ⊢
  split at hu
  · exact hu
  · simp at hu
theorem own_ints (h : w.ownsRow base e 1 (.slice A n c) n (intCells l)) : l.length = n := (RS.of_own h).ints
end

/-! ### plain words -/
def sumI (l : List Int) (k : Nat) : Int := (l.take k).sum
theorem sumI_zero (l : List Int) : sumI l 0 = 0 := by simp [sumI]
theorem sumI_succ {l : List Int} {k : Nat} {x : Int} (h : l[k]? = some x) : sumI l (k + 1) = sumI l k + x := by
  simp [sumI, List.take_add_one, h]
theorem sumI_all (l : List Int) : sumI l l.length = l.sum := by simp [sumI]
def ups (M : Int) (l : List Int) : Prop := ∀ x ∈ l, 0 ≤ x ∧ x ≤ M
theorem sumI_bd {l : List Int} {M : Int} (h : ups M l) (k : Nat) (hk : k ≤ l.length) : 0 ≤ sumI l k ∧ sumI l k ≤ k * M := by
  induction k with
  | zero => simp [sumI_zero]
  | succ k ih =>
    have hx : l[k]? = some l[k] := List.getElem?_eq_getElem (by omega)
    rw [sumI_succ hx]
    have := ih (by omega); have h1 := h l[k] (List.getElem_mem _)
    rw [Int.natCast_add, Int.add_mul]
    omega
theorem sumI_bd' {l : List Int} {M : Int} {N : Nat} (h : ups M l) (hM : 0 ≤ M) (hl : l.length ≤ N) (k : Nat) (hk : k ≤ l.length) : 0 ≤ sumI l k ∧ sumI l k ≤ N * M := by
  obtain ⟨h1, h2⟩ := sumI_bd h k hk
  refine ⟨h1, Int.le_trans h2 (Int.mul_le_mul_of_nonneg_right (by omega) hM)⟩
theorem ups_take {l : List Int} {M : Int} (h : ups M l) (k : Nat) : ups M (l.take k) := fun x hx => h x (List.mem_of_mem_take hx)
def areW (l : List Int) : Bool := l.all (fun x => inB x 0 1000000) && (decide (l.length ≤ 40) && decide (0 < l.sum))
theorem areW_ups {l : List Int} (h : areW l = true) : ups 1000000 l ∧ l.length ≤ 40 ∧ 0 < l.sum := by
  simp only [areW, Bool.and_eq_true, List.all_eq_true, decide_eq_true_eq] at h
  exact ⟨fun x hx => inB_true.1 (h.1 x hx), h.2.1, h.2.2⟩
theorem areW_bad {l : List Int} {k : Nat} {x : Int} (hx : l[k]? = some x) (h : inB x 0 1000000 = false) : areW l = false := by
  have : l.all (fun x => inB x 0 1000000) = false := by
    rw [List.all_eq_false]; exact ⟨x, List.mem_of_getElem? hx, by simp [h]⟩
  simp [areW, this]
theorem areW_good {l : List Int} (h : ∀ (j : Nat) (x : Int), l[j]? = some x → inB x 0 1000000 = true) : areW l = (decide (l.length ≤ 40) && decide (0 < l.sum)) := by
  have : l.all (fun x => inB x 0 1000000) = true := by
    rw [List.all_eq_true]; intro x hx
    obtain ⟨j, hj, rfl⟩ := List.getElem_of_mem hx
    exact h j _ (List.getElem?_eq_getElem hj)
  simp [areW, this]
/-- What the first k weights get. -/
def shareI (t : Int) (l : List Int) (k : Nat) : Int := (t * sumI l k).tdiv l.sum
def shareOk (t : Int) (l : List Int) : Bool := areW l && inB t (-1000000000) 1000000000
theorem tdiv_bd {a b M : Int} (hb : 0 < b) (h1 : -(M * b) ≤ a) (h2 : a ≤ M * b) : -M ≤ a.tdiv b ∧ a.tdiv b ≤ M := by
  rcases Int.le_total 0 a with h | h
  · have hM : 0 ≤ M := by
      rcases Int.lt_or_le M 0 with hm | hm
      · have := Int.mul_neg_of_neg_of_pos hm hb; omega
      · exact hm
    rw [Int.tdiv_eq_ediv_of_nonneg h]
    have := Int.ediv_nonneg h (Int.le_of_lt hb)
    have := Int.ediv_le_of_le_mul hb h2
    omega
  · have e : a = -(-a) := by omega
    rw [e, Int.neg_tdiv, Int.tdiv_eq_ediv_of_nonneg (by omega)]
    have h3 := Int.ediv_nonneg (a := -a) (b := b) (by omega) (Int.le_of_lt hb)
    have h4 := Int.ediv_le_of_le_mul hb (show -a ≤ M * b by omega)
    omega
theorem sumI_le {l : List Int} {M : Int} (h : ups M l) (k : Nat) (hk : k ≤ l.length) : sumI l k ≤ l.sum := by
  have : ∀ j, k + j ≤ l.length → sumI l k ≤ sumI l (k + j) := by
    intro j
    induction j with
    | zero => intro _; exact Int.le_refl _
    | succ j ih =>
      intro hj
      have hx : l[k + j]? = some l[k + j] := List.getElem?_eq_getElem (by omega)
      have := sumI_succ hx
      have h1 := h l[k + j] (List.getElem_mem _)
      have := ih (by omega)
      rw [show k + (j + 1) = k + j + 1 by omega]
      omega
  have h2 := this (l.length - k) (by omega)
  rw [show k + (l.length - k) = l.length by omega, sumI_all] at h2
  exact h2
theorem mul_abs {t s S : Int} (h1 : -1000000000 ≤ t) (h2 : t ≤ 1000000000) (h3 : 0 ≤ s) (h4 : s ≤ S) : -(1000000000 * S) ≤ t * s ∧ t * s ≤ 1000000000 * S := by
  have a := Int.mul_le_mul_of_nonneg_right h2 h3
  have b := Int.mul_le_mul_of_nonneg_right h1 h3
  have c := Int.mul_le_mul_of_nonneg_left h4 (show (0 : Int) ≤ 1000000000 by omega)
  omega
theorem shareI_bd {t : Int} {l : List Int} (h : areW l = true) (h1 : -1000000000 ≤ t) (h2 : t ≤ 1000000000) (k : Nat) (hk : k ≤ l.length) : -1000000000 ≤ shareI t l k ∧ shareI t l k ≤ 1000000000 := by
  obtain ⟨u, _, p⟩ := areW_ups h
  have b := sumI_bd u k hk
  have m := mul_abs h1 h2 b.1 (sumI_le u k hk)
  exact tdiv_bd p m.1 m.2

theorem implSum (A : Option Addr) (n c : Nat) (l : List Int) (w : World) (hr : RS w 1 A n (intCells l)) (hn : n ≤ 1000000) (hb : ups 1000000000 l) :
    Calls Try.prog 73 #[.slice A n c] w fun e w' => e = .returned (.int .i64 l.sum) ∧ w = w' := by
  have hl := Lib.hid hr.ints
  have SB := Lib.hid (sumI_bd' hb (by omega) (by rw [hl.out]; exact hn))
  have HB := Lib.hid hb; clear hb
  go_enter Try.func73, Try.ntmps73
  go_wp2
  go_loop [3, 8] (fun t i => ∃ k : Nat, k ≤ n ∧ i = .int .i64 k ∧ t = .int .i64 (sumI l k)) (fun _ i => n - (intOf i).toNat)
  case atStart => exact ⟨0, Nat.zero_le _, rfl, by rw [sumI_zero]⟩
  case round =>
    obtain ⟨k, hk, rfl, rfl⟩ := hrel
    by_cases hlt : k < n
    · obtain ⟨g, off, rfl, x, hx, hc⟩ := hr.intAt hlt
      have HS := Lib.hid (sumI_succ hx)
      have sb := SB.out k (by rw [hl.out]; omega)
      have hx1 := HB.out x (List.mem_of_getElem? hx)
      obtain ⟨sb1, sb2⟩ := sb
      obtain ⟨hx1, hx2⟩ := hx1
      have i1 : (0 : Int) ≤ k := by omega
      have i2 : (k : Int) < n := by omega
      clear hx
      go_wp2
      go_round
      case rel => exact ⟨k + 1, by omega, by go_num, by rw [HS.out]⟩
      case measure => simp [intOf]; omega
    · go_wp2
      have : k = n := by omega
      subst this
      go_ret
      exact ⟨ret_int (by rw [← sumI_all, hl.out]), rfl⟩
theorem specSum (A : Option Addr) (n c : Nat) (l : List Int) (w : World) (hr : RS w 1 A n (intCells l)) (hn : n ≤ 1000000) (hb : ups 1000000000 l) :
    Calls Try.prog 64 #[.slice A n c] w fun e w' => e = .returned (.int .i64 l.sum) ∧ w = w' := by
  have hl := Lib.hid hr.ints
  have SB := Lib.hid (sumI_bd' hb (by omega) (by rw [hl.out]; exact hn))
  have HB := Lib.hid hb; clear hb
  go_enter Try.func64, Try.ntmps64
  go_wp2
  go_loop [3, 4] (fun t i => ∃ k : Nat, k ≤ n ∧ i = .int .i64 k ∧ t = .int .i64 (sumI l k)) (fun _ i => n - (intOf i).toNat)
  case atStart => exact ⟨0, Nat.zero_le _, rfl, by rw [sumI_zero]⟩
  case round =>
    obtain ⟨k, hk, rfl, rfl⟩ := hrel
    by_cases hlt : k < n
    · obtain ⟨g, off, rfl, x, hx, hc⟩ := hr.intAt hlt
      have HS := Lib.hid (sumI_succ hx)
      have sb := SB.out k (by rw [hl.out]; omega)
      have hx1 := HB.out x (List.mem_of_getElem? hx)
      obtain ⟨sb1, sb2⟩ := sb
      obtain ⟨hx1, hx2⟩ := hx1
      have i1 : (0 : Int) ≤ k := by omega
      have i2 : (k : Int) < n := by omega
      clear hx
      go_wp2
      go_round
      case rel => exact ⟨k + 1, by omega, by go_num, by rw [HS.out]⟩
      case measure => simp [intOf]; omega
    · go_wp2
      have : k = n := by omega
      subst this
      go_ret
      exact ⟨ret_int (by rw [← sumI_all, hl.out]), rfl⟩

set_option maxHeartbeats 1000000 in
theorem implAreW (A : Option Addr) (n c : Nat) (l : List Int) (w : World) (hr : RS w 1 A n (intCells l)) (hn : n ≤ 9223372036854775807) :
    Calls Try.prog 71 #[.slice A n c] w fun e w' => e = .returned (.bool (areW l)) ∧ w = w' := by
  have hl := Lib.hid hr.ints
  go_enter Try.func71, Try.ntmps71
  go_wp2
  go_loop [7] (fun i => ∃ k : Nat, k ≤ n ∧ i = .int .i64 k ∧ Hid (∀ (j : Nat) (x : Int), j < k → l[j]? = some x → inB x 0 1000000 = true)) (fun i => n - (intOf i).toNat)
  case atStart => exact ⟨0, Nat.zero_le _, rfl, fun j x h => absurd h (Nat.not_lt_zero _)⟩
  case round =>
    obtain ⟨k, hk, rfl, hgood⟩ := hrel
    by_cases hlt : k < n
    · obtain ⟨g, off, rfl, x, hx, hc⟩ := hr.intAt hlt
      have i1 : (0 : Int) ≤ k := by omega
      have i2 : (k : Int) < n := by omega
      have HX := Lib.hid hx; clear hx
      cases hb : inB x 0 1000000
      · go_wp2_with (go_at_call 52; refine (impl_in _ _ _ _).mono ?_; rw [hb]; rintro e w' ⟨rfl, rfl⟩)
        go_ret
        exact ⟨ret_bool (areW_bad HX.out hb).symm, rfl⟩
      · have HB := Lib.hid hb
        go_wp2_with (go_at_call 52; refine (impl_in _ _ _ _).mono ?_; rw [HB.out]; rintro e w' ⟨rfl, rfl⟩)
        go_round
        case rel =>
          refine ⟨k + 1, by omega, by go_num, fun j y hj hy => ?_⟩
          rcases Nat.lt_succ_iff_lt_or_eq.1 hj with h | rfl
          · exact hgood.out j y h hy
          · rw [HX.out] at hy; injection hy with hy; rw [← hy]; exact HB.out
        case measure => simp [intOf]; omega
    · obtain rfl : n = k := by omega
      have AG := Lib.hid (areW_good fun j x hx => hgood.out j x (by rw [← hl.out]; exact (List.getElem?_eq_some_iff.1 hx).1) hx)
      by_cases h40 : n ≤ 40
      · have U : ups 1000000000 l := fun x hx => by
          obtain ⟨j, hj, rfl⟩ := List.getElem_of_mem hx
          have := inB_true.1 (hgood.out j _ (by rw [← hl.out]; exact hj) (List.getElem?_eq_getElem hj))
          omega
        have HU := Lib.hid U; clear U hgood
        go_wp2_with (go_at_call 73; refine (implSum _ _ _ l _ hr (by omega) HU.out).mono ?_; rintro e w' ⟨rfl, rfl⟩)
        go_ret
        exact ⟨ret_bool (by rw [AG.out, hl.out]; simp [h40]), rfl⟩
      · go_wp2_with fail
        go_ret
        exact ⟨ret_bool (by rw [AG.out, hl.out]; simp [h40]), rfl⟩
set_option maxHeartbeats 1000000 in
theorem specAreW (A : Option Addr) (n c : Nat) (l : List Int) (w : World) (hr : RS w 1 A n (intCells l)) (hn : n ≤ 9223372036854775807) :
    Calls Try.prog 63 #[.slice A n c] w fun e w' => e = .returned (.bool (areW l)) ∧ w = w' := by
  have hl := Lib.hid hr.ints
  go_enter Try.func63, Try.ntmps63
  go_wp2
  go_loop [3] (fun i => ∃ k : Nat, k ≤ n ∧ i = .int .i64 k ∧ Hid (∀ (j : Nat) (x : Int), j < k → l[j]? = some x → inB x 0 1000000 = true)) (fun i => n - (intOf i).toNat)
  case atStart => exact ⟨0, Nat.zero_le _, rfl, fun j x h => absurd h (Nat.not_lt_zero _)⟩
  case round =>
    obtain ⟨k, hk, rfl, hgood⟩ := hrel
    by_cases hlt : k < n
    · obtain ⟨g, off, rfl, x, hx, hc⟩ := hr.intAt hlt
      have i1 : (0 : Int) ≤ k := by omega
      have i2 : (k : Int) < n := by omega
      have HX := Lib.hid hx; clear hx
      cases hb : inB x 0 1000000
      · go_wp2_with (go_at_call 55; refine (spec_in _ _ _ _).mono ?_; rw [hb]; rintro e w' ⟨rfl, rfl⟩)
        go_ret
        exact ⟨ret_bool (areW_bad HX.out hb).symm, rfl⟩
      · have HB := Lib.hid hb
        go_wp2_with (go_at_call 55; refine (spec_in _ _ _ _).mono ?_; rw [HB.out]; rintro e w' ⟨rfl, rfl⟩)
        go_round
        case rel =>
          refine ⟨k + 1, by omega, by go_num, fun j y hj hy => ?_⟩
          rcases Nat.lt_succ_iff_lt_or_eq.1 hj with h | rfl
          · exact hgood.out j y h hy
          · rw [HX.out] at hy; injection hy with hy; rw [← hy]; exact HB.out
        case measure => simp [intOf]; omega
    · obtain rfl : n = k := by omega
      have AG := Lib.hid (areW_good fun j x hx => hgood.out j x (by rw [← hl.out]; exact (List.getElem?_eq_some_iff.1 hx).1) hx)
      by_cases h40 : n ≤ 40
      · have U : ups 1000000000 l := fun x hx => by
          obtain ⟨j, hj, rfl⟩ := List.getElem_of_mem hx
          have := inB_true.1 (hgood.out j _ (by rw [← hl.out]; exact hj) (List.getElem?_eq_getElem hj))
          omega
        have HU := Lib.hid U; clear U hgood
        go_wp2_with (go_at_call 64; refine (specSum _ _ _ l _ hr (by omega) HU.out).mono ?_; rintro e w' ⟨rfl, rfl⟩)
        go_ret
        exact ⟨ret_bool (by rw [AG.out, hl.out]; simp [h40]), rfl⟩
      · go_wp2_with fail
        go_ret
        exact ⟨ret_bool (by rw [AG.out, hl.out]; simp [h40]), rfl⟩

def shareAt (t : Int) (l : List Int) (k : Int) : Int := if shareOk t l && inB k 0 (l.length : Int) then shareI t l k.toNat else 0
set_option maxHeartbeats 1000000 in
theorem implShareTo (t : Int) (A : Option Addr) (n c : Nat) (l : List Int) (k : Int) (w : World) (hr : RS w 1 A n (intCells l)) (hn : n ≤ 9223372036854775807) (hc : n ≤ c) :
    Calls Try.prog 72 #[.int .i64 t, .slice A n c, .int .i64 k] w fun e w' => e = .returned (.tuple #[.int .i64 (shareAt t l k), .bool (shareOk t l && inB k 0 (l.length : Int))]) ∧ w = w' := by
  have hl := hr.ints
  rw [shareAt, hl]
  have HL := Lib.hid hl; clear hl
  cases h1 : areW l
  · have e : shareOk t l = false := by simp [shareOk, h1]
    rw [e]; clear e
    go_enter Try.func72, Try.ntmps72
    go_wp2_with (go_at_call 71; refine (implAreW _ _ _ l _ hr hn).mono ?_; rw [h1]; rintro e w' ⟨rfl, rfl⟩)
    go_ret2
    exact ⟨rfl, rfl⟩
  · have H1 := Lib.hid h1; clear h1
    cases h2 : inB t (-1000000000) 1000000000
    · have e : shareOk t l = false := by simp [shareOk, h2]
      rw [e]; clear e
      go_enter Try.func72, Try.ntmps72
      go_wp2_with (first | (go_at_call 71; refine (implAreW _ _ _ l _ hr hn).mono ?_; rw [H1.out]; rintro e w' ⟨rfl, rfl⟩) | (go_at_call 52; refine (impl_in _ _ _ _).mono ?_; rw [h2]; rintro e w' ⟨rfl, rfl⟩))
      go_ret2
      exact ⟨rfl, rfl⟩
    · have e : shareOk t l = true := by simp [shareOk, h2, H1.out]
      rw [e]; clear e
      have H2 := Lib.hid h2; clear h2
      cases h3 : inB k 0 (n : Int)
      · go_enter Try.func72, Try.ntmps72
        go_wp2_with fail
        refine (implAreW _ _ _ l _ hr hn).mono ?_; rw [H1.out]; rintro e w' ⟨rfl, rfl⟩
        go_wp2_with fail
        refine (impl_in _ _ _ _).mono ?_; rw [H2.out]; rintro e w' ⟨rfl, rfl⟩
        go_wp2_with fail
        refine (impl_in _ _ _ _).mono ?_; rw [h3]; rintro e w' ⟨rfl, rfl⟩
        go_wp2_with fail
        go_ret2
        exact ⟨rfl, rfl⟩
      · have hk := inB_true.1 h3
        have ht := inB_true.1 H2.out
        obtain ⟨j, rfl⟩ := Int.eq_ofNat_of_zero_le hk.1
        obtain ⟨u, h40, pos⟩ := areW_ups H1.out
        rw [HL.out] at h40
        have U : ups 1000000000 l := fun x hx => by have := u x hx; omega
        have b := sumI_bd' (N := 40) u (by omega) (by rw [HL.out]; exact h40)
        have bj := b j (by rw [HL.out]; omega)
        have bs := b n (by rw [HL.out]; exact Nat.le_refl _)
        have hs : sumI l n = l.sum := by rw [← sumI_all, HL.out]
        rw [hs] at bs
        have m := mul_abs ht.1 ht.2 bj.1 bj.2
        have q := shareI_bd H1.out ht.1 ht.2 j (by rw [HL.out]; omega)
        have hj : j ≤ n := by omega
        have rt := hr.intTake hj
        have et : (l.take j).sum = sumI l j := rfl
        have HU := Lib.hid U; have HT := Lib.hid (ups_take U j); have H3 := Lib.hid h3; have ET := Lib.hid et
        have es : (t * sumI l j).tdiv l.sum = shareI t l j := rfl
        have ES := Lib.hid es
        clear U b u hs h3 et es
        rw [if_pos (by rfl), Int.toNat_natCast]
        go_enter Try.func72, Try.ntmps72
        go_wp2_with fail
        refine (implAreW _ _ _ l _ hr hn).mono ?_; rw [H1.out]; rintro e w' ⟨rfl, rfl⟩
        go_wp2_with fail
        refine (impl_in _ _ _ _).mono ?_; rw [H2.out]; rintro e w' ⟨rfl, rfl⟩
        go_wp2_with fail
        refine (impl_in _ _ _ _).mono ?_; rw [H3.out]; rintro e w' ⟨rfl, rfl⟩
        go_wp2_with fail
        refine (implSum _ _ _ (l.take j) _ rt (by omega) HT.out).mono ?_; rw [ET.out]; rintro e w' ⟨rfl, rfl⟩
        go_wp2_with fail
        refine (implSum _ _ _ l _ hr (by omega) HU.out).mono ?_; rintro e w' ⟨rfl, rfl⟩
        go_wp2_with fail
        go_ret2
        exact ⟨by rw [← ES.out]; rfl, rfl⟩
set_option maxHeartbeats 1000000 in
theorem specShareTo (t : Int) (A : Option Addr) (n c : Nat) (l : List Int) (k : Int) (w : World) (hr : RS w 1 A n (intCells l)) (hn : n ≤ 9223372036854775807) (hc : n ≤ c) :
    Calls Try.prog 70 #[.int .i64 t, .slice A n c, .int .i64 k] w fun e w' => e = .returned (.tuple #[.int .i64 (shareAt t l k), .bool (shareOk t l && inB k 0 (l.length : Int))]) ∧ w = w' := by
  have hl := hr.ints
  rw [shareAt, hl]
  have HL := Lib.hid hl; clear hl
  cases h1 : areW l
  · have e : shareOk t l = false := by simp [shareOk, h1]
    rw [e]; clear e
    go_enter Try.func70, Try.ntmps70
    go_wp2_with (go_at_call 63; refine (specAreW _ _ _ l _ hr hn).mono ?_; rw [h1]; rintro e w' ⟨rfl, rfl⟩)
    go_ret2
    exact ⟨rfl, rfl⟩
  · have H1 := Lib.hid h1; clear h1
    cases h2 : inB t (-1000000000) 1000000000
    · have e : shareOk t l = false := by simp [shareOk, h2]
      rw [e]; clear e
      go_enter Try.func70, Try.ntmps70
      go_wp2_with (first | (go_at_call 63; refine (specAreW _ _ _ l _ hr hn).mono ?_; rw [H1.out]; rintro e w' ⟨rfl, rfl⟩) | (go_at_call 55; refine (spec_in _ _ _ _).mono ?_; rw [h2]; rintro e w' ⟨rfl, rfl⟩))
      go_ret2
      exact ⟨rfl, rfl⟩
    · have e : shareOk t l = true := by simp [shareOk, h2, H1.out]
      rw [e]; clear e
      have H2 := Lib.hid h2; clear h2
      cases h3 : inB k 0 (n : Int)
      · go_enter Try.func70, Try.ntmps70
        go_wp2_with fail
        refine (specAreW _ _ _ l _ hr hn).mono ?_; rw [H1.out]; rintro e w' ⟨rfl, rfl⟩
        go_wp2_with fail
        refine (spec_in _ _ _ _).mono ?_; rw [H2.out]; rintro e w' ⟨rfl, rfl⟩
        go_wp2_with fail
        refine (spec_in _ _ _ _).mono ?_; rw [h3]; rintro e w' ⟨rfl, rfl⟩
        go_wp2_with fail
        go_ret2
        exact ⟨rfl, rfl⟩
      · have hk := inB_true.1 h3
        have ht := inB_true.1 H2.out
        obtain ⟨j, rfl⟩ := Int.eq_ofNat_of_zero_le hk.1
        obtain ⟨u, h40, pos⟩ := areW_ups H1.out
        rw [HL.out] at h40
        have U : ups 1000000000 l := fun x hx => by have := u x hx; omega
        have b := sumI_bd' (N := 40) u (by omega) (by rw [HL.out]; exact h40)
        have bj := b j (by rw [HL.out]; omega)
        have bs := b n (by rw [HL.out]; exact Nat.le_refl _)
        have hs : sumI l n = l.sum := by rw [← sumI_all, HL.out]
        rw [hs] at bs
        have m := mul_abs ht.1 ht.2 bj.1 bj.2
        have q := shareI_bd H1.out ht.1 ht.2 j (by rw [HL.out]; omega)
        have hj : j ≤ n := by omega
        have rt := hr.intTake hj
        have et : (l.take j).sum = sumI l j := rfl
        have HU := Lib.hid U; have HT := Lib.hid (ups_take U j); have H3 := Lib.hid h3; have ET := Lib.hid et
        have es : (t * sumI l j).tdiv l.sum = shareI t l j := rfl
        have ES := Lib.hid es
        clear U b u hs h3 et es
        rw [if_pos (by rfl), Int.toNat_natCast]
        go_enter Try.func70, Try.ntmps70
        go_wp2_with fail
        refine (specAreW _ _ _ l _ hr hn).mono ?_; rw [H1.out]; rintro e w' ⟨rfl, rfl⟩
        go_wp2_with fail
        refine (spec_in _ _ _ _).mono ?_; rw [H2.out]; rintro e w' ⟨rfl, rfl⟩
        go_wp2_with fail
        refine (spec_in _ _ _ _).mono ?_; rw [H3.out]; rintro e w' ⟨rfl, rfl⟩
        go_wp2_with fail
        refine (specSum _ _ _ (l.take j) _ rt (by omega) HT.out).mono ?_; rw [ET.out]; rintro e w' ⟨rfl, rfl⟩
        go_wp2_with fail
        refine (specSum _ _ _ l _ hr (by omega) HU.out).mono ?_; rintro e w' ⟨rfl, rfl⟩
        go_wp2_with fail
        go_ret2
        exact ⟨by rw [← ES.out]; rfl, rfl⟩
end Go.Proofs.Ytknfhiepndffpaa
