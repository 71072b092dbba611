/- Entries: the plain words, and the walks of AreEntries and NegateEntries. -/
import Derived.Test.YtlgodbjbllpipaaSEntry
import Derived.Test.YtlgodbjbllpipaaText
import Derived.Deep.RegionHeld3
import Derived.Deep.AppendLies
namespace Go.Proofs.Ytlgodbjbllpipaa
open Go.ChangeShapes Go.WideShapes Go.ChangeAt Go.RowKit

def enGood (x : En) : Bool := isCode x.acc && (inB x.amt (-1000000000) 1000000000 && x.amt != 0)
def amtS (l : List En) (k : Nat) : Int := sumF (fun x => x.amt) l k
def areEntries (l : List En) : Bool := l.all enGood && (amtS l l.length == 0 && inB (l.length : Int) 2 12)
theorem enGood_amt {x : En} (h : enGood x = true) : -1000000000 ≤ x.amt ∧ x.amt ≤ 1000000000 ∧ x.amt ≠ 0 ∧ isCode x.acc = true := by
  simp only [enGood, Bool.and_eq_true, inB_true, bne_iff_ne] at h
  exact ⟨h.2.1.1, h.2.1.2, h.2.2, h.1⟩
theorem areEntries_bad {l : List En} {k : Nat} {x : En} (hx : l[k]? = some x) (h : enGood x = false) : areEntries l = false := by
  have : l.all enGood = false := by
    rw [List.all_eq_false]; exact ⟨x, List.mem_of_getElem? hx, by simp [h]⟩
  simp [areEntries, this]
theorem areEntries_good {l : List En} (h : ∀ (j : Nat) (x : En), l[j]? = some x → enGood x = true) : areEntries l = (amtS l l.length == 0 && inB (l.length : Int) 2 12) := by
  have : l.all enGood = true := by
    rw [List.all_eq_true]; intro x hx
    obtain ⟨j, hj, rfl⟩ := List.getElem_of_mem hx
    exact h j _ (List.getElem?_eq_getElem hj)
  simp [areEntries, this]
theorem areEntries_true {l : List En} (h : areEntries l = true) : (∀ x ∈ l, enGood x = true) ∧ amtS l l.length = 0 ∧ 2 ≤ l.length ∧ l.length ≤ 12 := by
  simp only [areEntries, Bool.and_eq_true, List.all_eq_true, beq_iff_eq, inB_true] at h
  exact ⟨h.1, h.2.1, by omega, by omega⟩
/-- The ways through the test of an entry. -/
theorem en_ways (x : En) : isCode x.acc = false ∨ (isCode x.acc = true ∧ inB x.amt (-1000000000) 1000000000 = false ∧ (x.amt == 0) = false) ∨ (isCode x.acc = true ∧ x.amt = 0) ∨ (isCode x.acc = true ∧ inB x.amt (-1000000000) 1000000000 = true ∧ (x.amt == 0) = false) := by
  cases isCode x.acc
  · exact .inl rfl
  · by_cases h : x.amt = 0
    · exact .inr (.inr (.inl ⟨rfl, h⟩))
    · have h' : (x.amt == 0) = false := by simpa using h
      cases inB x.amt (-1000000000) 1000000000
      · exact .inr (.inl ⟨rfl, rfl, h'⟩)
      · exact .inr (.inr (.inr ⟨rfl, rfl, h'⟩))

set_option maxRecDepth 100000 in
set_option maxHeartbeats 4000000 in
theorem implAreEntries (A : Option Addr) (n c : Nat) (l : List En) (w : World) (hr : RS w 2 A n (l.flatMap enCell)) (hn : n ≤ 1048600) (hok : ∀ x ∈ l, x.acc.size ≤ 9223372036854775807) :
    Calls Try.prog 75 #[.slice A n c] w fun e w' => e = .returned (.bool (areEntries l)) ∧ Below w.heap.size w w' := by
  have hl := Lib.hid (hr.flatLen enCell_len (by omega))
  have OK := Lib.hid hok; clear hok
  go_enter Try.func75, Try.ntmps75
  go_wp2
  go_loopw [3, 8] (fun t i wr => ∃ k : Nat, k ≤ n ∧ i = .int .i64 k ∧ t = .int .i64 (amtS l k) ∧ -(k * 1000000000) ≤ amtS l k ∧ amtS l k ≤ k * 1000000000 ∧ Below w.heap.size w wr ∧ Hid (∀ (j : Nat) (x : En), j < k → l[j]? = some x → enGood x = true)) (fun _ i _ => n - (intOf i).toNat)
  case atStart => exact ⟨0, Nat.zero_le _, rfl, by rw [amtS, sumF_zero], by rw [amtS, sumF_zero]; omega, by rw [amtS, sumF_zero]; omega, Below.refl _ _, fun j x h => absurd h (Nat.not_lt_zero _)⟩
  case round =>
    obtain ⟨k, hk, rfl, rfl, hs1, hs2, hb, hgood⟩ := hrel
    have hz := hb.size
    by_cases hlt : k < n
    · obtain ⟨g, off, rfl, ⟨acc, amt⟩, hx, h0, h1⟩ := (hr.below hb).enAt hlt
      have hsz := OK.out _ (List.mem_of_getElem? hx)
      have SS := Lib.hid (show amtS l (k + 1) = amtS l k + amt from sumF_succ (fun x : En => x.amt) hx)
      simp only at h0 h1 hsz
      have HX := Lib.hid hx; clear hx
      have i1 : (0 : Int) ≤ k := by omega
      have i2 : (k : Int) < n := by omega
      rcases en_ways ⟨acc, amt⟩ with q1 | ⟨q1, q2, q3⟩ | ⟨q1, q2⟩ | ⟨q1, q2, q3⟩
      case inl =>
        simp only at q1
        have BAD := Lib.hid (areEntries_bad HX.out (show enGood ⟨acc, amt⟩ = false by simp [enGood, q1]))
        go_wp2_with (go_at_call 45; refine (implIsCode _ _ hsz).mono ?_; rw [q1]; rintro e w' ⟨rfl, rfl⟩)
        go_ret
        exact ⟨ret_bool BAD.out.symm, hb.alloc hz _⟩
      case inr.inl =>
        simp only at q1 q2 q3
        have BAD := Lib.hid (areEntries_bad HX.out (show enGood ⟨acc, amt⟩ = false by simp [enGood, q2]))
        go_wp2_with (first | (go_at_call 45; refine (implIsCode _ _ hsz).mono ?_; rw [q1]; rintro e w' ⟨rfl, rfl⟩) | (go_at_call 47; refine (impl_in _ _ _ _).mono ?_; rw [q2]; rintro e w' ⟨rfl, rfl⟩))
        go_ret
        exact ⟨ret_bool BAD.out.symm, hb.alloc hz _⟩
      case inr.inr.inl =>
        simp only at q1 q2
        subst q2
        have BAD := Lib.hid (areEntries_bad HX.out (show enGood ⟨acc, 0⟩ = false by simp [enGood]))
        have q4 : inB 0 (-1000000000) 1000000000 = true := rfl
        go_wp2_with (first | (go_at_call 45; refine (implIsCode _ _ hsz).mono ?_; rw [q1]; rintro e w' ⟨rfl, rfl⟩) | (go_at_call 47; refine (impl_in _ _ _ _).mono ?_; rw [q4]; rintro e w' ⟨rfl, rfl⟩))
        go_ret
        exact ⟨ret_bool BAD.out.symm, hb.alloc hz _⟩
      case inr.inr.inr =>
        simp only at q1 q2 q3
        have GOOD := Lib.hid (show enGood ⟨acc, amt⟩ = true by simp only [enGood, q1, q2, Bool.true_and]; simpa using q3)
        have hb2 := inB_true.1 q2
        go_wp2_with (first | (go_at_call 45; refine (implIsCode _ _ hsz).mono ?_; rw [q1]; rintro e w' ⟨rfl, rfl⟩) | (go_at_call 47; refine (impl_in _ _ _ _).mono ?_; rw [q2]; rintro e w' ⟨rfl, rfl⟩))
        go_roundw
        case rel =>
          refine ⟨k + 1, by omega, by go_num, by rw [SS.out], by rw [SS.out]; omega, by rw [SS.out]; omega, hb.alloc hz _, fun j y hj hy => ?_⟩
          rcases Nat.lt_succ_iff_lt_or_eq.1 hj with h | rfl
          · exact hgood.out j y h hy
          · rw [HX.out] at hy; injection hy with hy; rw [← hy]; exact GOOD.out
        case measure => simp [intOf]; omega
    · obtain rfl : n = k := by omega
      have AG := Lib.hid (areEntries_good fun j x hx => hgood.out j x (by rw [← hl.out]; exact (List.getElem?_eq_some_iff.1 hx).1) hx)
      rw [hl.out] at AG
      clear hgood
      by_cases h0 : amtS l n = 0
      · have h0' : (amtS l n == 0) = true := by simpa using h0
        cases h1 : inB (n : Int) 2 12
        all_goals
          have A2 := Lib.hid (AG.out.trans (by rw [h0', h1]))
          go_wp2_with (go_at_call 47; refine (impl_in _ _ _ _).mono ?_; rw [h1]; rintro e w' ⟨rfl, rfl⟩)
          go_ret
          exact ⟨ret_bool (by rw [A2.out]; rfl), hb⟩
      · have h0' : (amtS l n == 0) = false := by simpa using h0
        cases h1 : inB (n : Int) 2 12
        all_goals
          have A2 := Lib.hid (AG.out.trans (by rw [h0', h1]))
          go_wp2_with (go_at_call 47; refine (impl_in _ _ _ _).mono ?_; rw [h1]; rintro e w' ⟨rfl, rfl⟩)
          go_ret
          exact ⟨ret_bool (by rw [A2.out]; rfl), hb⟩
set_option maxRecDepth 100000 in
set_option maxHeartbeats 4000000 in
theorem specAreEntries (A : Option Addr) (n c : Nat) (l : List En) (w : World) (hr : RS w 2 A n (l.flatMap enCell)) (hn : n ≤ 1048600) (hok : ∀ x ∈ l, x.acc.size ≤ 9223372036854775807) :
    Calls Try.prog 74 #[.slice A n c] w fun e w' => e = .returned (.bool (areEntries l)) ∧ Below w.heap.size w w' := by
  have hl := Lib.hid (hr.flatLen enCell_len (by omega))
  have OK := Lib.hid hok; clear hok
  go_enter Try.func74, Try.ntmps74
  go_wp2
  go_loopw [3, 4] (fun t i wr => ∃ k : Nat, k ≤ n ∧ i = .int .i64 k ∧ t = .int .i64 (amtS l k) ∧ -(k * 1000000000) ≤ amtS l k ∧ amtS l k ≤ k * 1000000000 ∧ Below w.heap.size w wr ∧ Hid (∀ (j : Nat) (x : En), j < k → l[j]? = some x → enGood x = true)) (fun _ i _ => n - (intOf i).toNat)
  case atStart => exact ⟨0, Nat.zero_le _, rfl, by rw [amtS, sumF_zero], by rw [amtS, sumF_zero]; omega, by rw [amtS, sumF_zero]; omega, Below.refl _ _, fun j x h => absurd h (Nat.not_lt_zero _)⟩
  case round =>
    obtain ⟨k, hk, rfl, rfl, hs1, hs2, hb, hgood⟩ := hrel
    have hz := hb.size
    by_cases hlt : k < n
    · obtain ⟨g, off, rfl, ⟨acc, amt⟩, hx, h0, h1⟩ := (hr.below hb).enAt hlt
      have hsz := OK.out _ (List.mem_of_getElem? hx)
      have SS := Lib.hid (show amtS l (k + 1) = amtS l k + amt from sumF_succ (fun x : En => x.amt) hx)
      simp only at h0 h1 hsz
      have HX := Lib.hid hx; clear hx
      have i1 : (0 : Int) ≤ k := by omega
      have i2 : (k : Int) < n := by omega
      rcases en_ways ⟨acc, amt⟩ with q1 | ⟨q1, q2, q3⟩ | ⟨q1, q2⟩ | ⟨q1, q2, q3⟩
      case inl =>
        simp only at q1
        have BAD := Lib.hid (areEntries_bad HX.out (show enGood ⟨acc, amt⟩ = false by simp [enGood, q1]))
        go_wp2_with (go_at_call 41; refine (specIsCode _ _ hsz).mono ?_; rw [q1]; rintro e w' ⟨rfl, rfl⟩)
        go_ret
        exact ⟨ret_bool BAD.out.symm, hb⟩
      case inr.inl =>
        simp only at q1 q2 q3
        have BAD := Lib.hid (areEntries_bad HX.out (show enGood ⟨acc, amt⟩ = false by simp [enGood, q2]))
        go_wp2_with (first | (go_at_call 41; refine (specIsCode _ _ hsz).mono ?_; rw [q1]; rintro e w' ⟨rfl, rfl⟩) | (go_at_call 43; refine (spec_in _ _ _ _).mono ?_; rw [q2]; rintro e w' ⟨rfl, rfl⟩))
        go_ret
        exact ⟨ret_bool BAD.out.symm, hb⟩
      case inr.inr.inl =>
        simp only at q1 q2
        subst q2
        have BAD := Lib.hid (areEntries_bad HX.out (show enGood ⟨acc, 0⟩ = false by simp [enGood]))
        have q4 : inB 0 (-1000000000) 1000000000 = true := rfl
        go_wp2_with (first | (go_at_call 41; refine (specIsCode _ _ hsz).mono ?_; rw [q1]; rintro e w' ⟨rfl, rfl⟩) | (go_at_call 43; refine (spec_in _ _ _ _).mono ?_; rw [q4]; rintro e w' ⟨rfl, rfl⟩))
        go_ret
        exact ⟨ret_bool BAD.out.symm, hb⟩
      case inr.inr.inr =>
        simp only at q1 q2 q3
        have GOOD := Lib.hid (show enGood ⟨acc, amt⟩ = true by simp only [enGood, q1, q2, Bool.true_and]; simpa using q3)
        have hb2 := inB_true.1 q2
        go_wp2_with (first | (go_at_call 41; refine (specIsCode _ _ hsz).mono ?_; rw [q1]; rintro e w' ⟨rfl, rfl⟩) | (go_at_call 43; refine (spec_in _ _ _ _).mono ?_; rw [q2]; rintro e w' ⟨rfl, rfl⟩))
        go_roundw
        case rel =>
          refine ⟨k + 1, by omega, by go_num, by rw [SS.out], by rw [SS.out]; omega, by rw [SS.out]; omega, hb, fun j y hj hy => ?_⟩
          rcases Nat.lt_succ_iff_lt_or_eq.1 hj with h | rfl
          · exact hgood.out j y h hy
          · rw [HX.out] at hy; injection hy with hy; rw [← hy]; exact GOOD.out
        case measure => simp [intOf]; omega
    · obtain rfl : n = k := by omega
      have AG := Lib.hid (areEntries_good fun j x hx => hgood.out j x (by rw [← hl.out]; exact (List.getElem?_eq_some_iff.1 hx).1) hx)
      rw [hl.out] at AG
      clear hgood
      by_cases h0 : amtS l n = 0
      · have h0' : (amtS l n == 0) = true := by simpa using h0
        cases h1 : inB (n : Int) 2 12
        all_goals
          have A2 := Lib.hid (AG.out.trans (by rw [h0', h1]))
          go_wp2_with (go_at_call 43; refine (spec_in _ _ _ _).mono ?_; rw [h1]; rintro e w' ⟨rfl, rfl⟩)
          go_ret
          exact ⟨ret_bool (by rw [A2.out]; rfl), hb⟩
      · have h0' : (amtS l n == 0) = false := by simpa using h0
        cases h1 : inB (n : Int) 2 12
        all_goals
          have A2 := Lib.hid (AG.out.trans (by rw [h0', h1]))
          go_wp2_with (go_at_call 43; refine (spec_in _ _ _ _).mono ?_; rw [h1]; rintro e w' ⟨rfl, rfl⟩)
          go_ret
          exact ⟨ret_bool (by rw [A2.out]; rfl), hb⟩
end Go.Proofs.Ytlgodbjbllpipaa
