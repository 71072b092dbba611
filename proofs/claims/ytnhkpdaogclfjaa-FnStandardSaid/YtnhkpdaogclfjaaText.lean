/- Codes: the plain word, and the walks of IsCode. -/
import Derived.Test.YtnhkpdaogclfjaaIn
namespace Go.Proofs.Ytnhkpdaogclfjaa
open Go.ChangeShapes Go.WideShapes Go.ChangeAt Go.RowKit

/-- Is a byte wrong at a place? -/
def badByte (c : UInt8) (k : Nat) : Bool := !(decide (65 ≤ c.toNat) && decide (c.toNat ≤ 90)) && (decide (k = 0) || ((decide (c.toNat < 48) || decide (57 < c.toNat)) && !decide (c.toNat = 45)))
def badAt (s : ByteArray) (k : Nat) : Bool := if h : k < s.size then badByte s[k] k else false
theorem badAt_of {s : ByteArray} {k : Nat} (h : k < s.size) : badAt s k = badByte s[k] k := by simp [badAt, h]
def isCode (s : ByteArray) : Bool := (List.range s.size).all (fun k => !badAt s k) && (decide (1 ≤ s.size) && decide (s.size ≤ 8))
theorem isCode_bad {s : ByteArray} {k : Nat} (hk : k < s.size) (h : badAt s k = true) : isCode s = false := by
  have : (List.range s.size).all (fun k => !badAt s k) = false := by
    rw [List.all_eq_false]; exact ⟨k, List.mem_range.2 hk, by simp [h]⟩
  simp [isCode, this]
theorem isCode_good {s : ByteArray} (h : ∀ j, j < s.size → badAt s j = false) : isCode s = (decide (1 ≤ s.size) && decide (s.size ≤ 8)) := by
  have : (List.range s.size).all (fun k => !badAt s k) = true := by
    rw [List.all_eq_true]; intro j hj; simp [h j (List.mem_range.1 hj)]
  simp [isCode, this]
theorem isCode_len {s : ByteArray} (h : isCode s = true) : 1 ≤ s.size ∧ s.size ≤ 8 := by
  simp only [isCode, Bool.and_eq_true, decide_eq_true_eq] at h; exact h.2
/-- The ways through the test of a byte. -/
theorem byte_ways (c : UInt8) (k : Nat) : (65 ≤ (c.toNat : Int) ∧ (c.toNat : Int) ≤ 90 ∧ badByte c k = false) ∨ ((¬ 65 ≤ (c.toNat : Int) ∨ ¬ (c.toNat : Int) ≤ 90) ∧ k = 0 ∧ badByte c k = true) ∨
    ((¬ 65 ≤ (c.toNat : Int) ∨ ¬ (c.toNat : Int) ≤ 90) ∧ 0 < k ∧ (c.toNat : Int) < 48 ∧ (c.toNat : Int) ≠ 45 ∧ badByte c k = true) ∨ ((¬ 65 ≤ (c.toNat : Int) ∨ ¬ (c.toNat : Int) ≤ 90) ∧ 0 < k ∧ (c.toNat : Int) < 48 ∧ (c.toNat : Int) = 45 ∧ badByte c k = false) ∨
    ((¬ 65 ≤ (c.toNat : Int) ∨ ¬ (c.toNat : Int) ≤ 90) ∧ 0 < k ∧ 57 < (c.toNat : Int) ∧ badByte c k = true) ∨ ((¬ 65 ≤ (c.toNat : Int) ∨ ¬ (c.toNat : Int) ≤ 90) ∧ 0 < k ∧ 48 ≤ (c.toNat : Int) ∧ (c.toNat : Int) ≤ 57 ∧ badByte c k = false) := by
  unfold badByte
  generalize c.toNat = n
  by_cases h1 : 65 ≤ n <;> by_cases h2 : n ≤ 90 <;> by_cases h3 : k = 0 <;> by_cases h4 : n < 48 <;> by_cases h5 : 57 < n <;> by_cases h6 : n = 45 <;> simp [h1, h2, h3, h4, h5, h6] <;> omega

set_option maxHeartbeats 2000000 in
theorem implIsCode (s : ByteArray) (w : World) (hs : s.size ≤ 9223372036854775807) : Calls Try.prog 82 #[.string s] w fun e w' => e = .returned (.bool (isCode s)) ∧ w = w' := by
  go_enter Try.func82, Try.ntmps82
  go_wp2
  go_loop [3] (fun i => ∃ k : Nat, k ≤ s.size ∧ i = .int .i64 k ∧ Hid (∀ j, j < k → badAt s j = false)) (fun i => s.size - (intOf i).toNat)
  case atStart => exact ⟨0, Nat.zero_le _, rfl, fun _ h => absurd h (Nat.not_lt_zero _)⟩
  case round =>
    obtain ⟨k, hk, rfl, hgood⟩ := hrel
    by_cases hlt : k < s.size
    · have step : badByte s[k] k = false → ∀ j, j < k + 1 → badAt s j = false := fun h j hj => by
        rcases Nat.lt_succ_iff_lt_or_eq.1 hj with h' | rfl
        · exact hgood.out j h'
        · rw [badAt_of hlt]; exact h
      have ST := Lib.hid step; clear step hgood
      have bad : badByte s[k] k = true → isCode s = false := fun h => isCode_bad hlt (by rw [badAt_of hlt]; exact h)
      have BAD := Lib.hid bad; clear bad
      have i1 : (0 : Int) ≤ k := by omega
      have i2 : (k : Int) < s.size := by omega
      rcases byte_ways s[k] k with ⟨h1, h2, h3⟩ | ⟨h1, h2, h3⟩ | ⟨h1, h2, h3, h4, h5⟩ | ⟨h1, h2, h3, h4, h5⟩ | ⟨h1, h2, h3, h5⟩ | ⟨h1, h2, h3, h4, h5⟩
      case inl =>
        go_wp2
        go_round
        case rel => exact ⟨k + 1, by omega, by go_num, ST.out h3⟩
        case measure => simp [intOf]; omega
      case inr.inl =>
        subst h2
        rcases h1 with h1 | h1
        all_goals
          go_wp2
          all_goals (go_ret; exact ⟨ret_bool (BAD.out h3).symm, rfl⟩)
      case inr.inr.inl =>
        have h6 : ((s[k].toNat : Int) != 45) = true := by simpa using h4
        have h7 : ((k : Int) == 0) = false := by simp; omega
        clear h4
        rcases h1 with h1 | h1
        all_goals
          go_wp2
          all_goals (go_ret; exact ⟨ret_bool (BAD.out h5).symm, rfl⟩)
      case inr.inr.inr.inl =>
        have h6 : ((s[k].toNat : Int) != 45) = false := by simpa using h4
        have h7 : ((k : Int) == 0) = false := by simp; omega
        clear h4
        rcases h1 with h1 | h1
        all_goals
          go_wp2
          all_goals
            go_round
            case rel => exact ⟨k + 1, by omega, by go_num, ST.out h5⟩
            case measure => simp [intOf]; omega
      case inr.inr.inr.inr.inl =>
        have h6 : ((s[k].toNat : Int) != 45) = true := by simp; omega
        have h7 : ((k : Int) == 0) = false := by simp; omega
        rcases h1 with h1 | h1
        all_goals
          go_wp2
          all_goals (go_ret; exact ⟨ret_bool (BAD.out h5).symm, rfl⟩)
      case inr.inr.inr.inr.inr =>
        have h7 : ((k : Int) == 0) = false := by simp; omega
        rcases h1 with h1 | h1
        all_goals
          go_wp2
          all_goals
            go_round
            case rel => exact ⟨k + 1, by omega, by go_num, ST.out h5⟩
            case measure => simp [intOf]; omega
    · obtain rfl : s.size = k := by omega
      have G := Lib.hid (isCode_good hgood.out)
      clear hgood
      by_cases h1 : 1 ≤ s.size
      · go_wp2
        go_ret
        exact ⟨ret_bool (by rw [G.out]; simp [h1]; omega), rfl⟩
      · go_wp2
        go_ret
        exact ⟨ret_bool (by rw [G.out]; simp [h1]), rfl⟩
set_option maxHeartbeats 2000000 in
theorem specIsCode (s : ByteArray) (w : World) (hs : s.size ≤ 9223372036854775807) : Calls Try.prog 81 #[.string s] w fun e w' => e = .returned (.bool (isCode s)) ∧ w = w' := by
  go_enter Try.func81, Try.ntmps81
  go_wp2
  go_loop [3] (fun i => ∃ k : Nat, k ≤ s.size ∧ i = .int .i64 k ∧ Hid (∀ j, j < k → badAt s j = false)) (fun i => s.size - (intOf i).toNat)
  case atStart => exact ⟨0, Nat.zero_le _, rfl, fun _ h => absurd h (Nat.not_lt_zero _)⟩
  case round =>
    obtain ⟨k, hk, rfl, hgood⟩ := hrel
    by_cases hlt : k < s.size
    · have step : badByte s[k] k = false → ∀ j, j < k + 1 → badAt s j = false := fun h j hj => by
        rcases Nat.lt_succ_iff_lt_or_eq.1 hj with h' | rfl
        · exact hgood.out j h'
        · rw [badAt_of hlt]; exact h
      have ST := Lib.hid step; clear step hgood
      have bad : badByte s[k] k = true → isCode s = false := fun h => isCode_bad hlt (by rw [badAt_of hlt]; exact h)
      have BAD := Lib.hid bad; clear bad
      have i1 : (0 : Int) ≤ k := by omega
      have i2 : (k : Int) < s.size := by omega
      rcases byte_ways s[k] k with ⟨h1, h2, h3⟩ | ⟨h1, h2, h3⟩ | ⟨h1, h2, h3, h4, h5⟩ | ⟨h1, h2, h3, h4, h5⟩ | ⟨h1, h2, h3, h5⟩ | ⟨h1, h2, h3, h4, h5⟩
      case inl =>
        go_wp2
        go_round
        case rel => exact ⟨k + 1, by omega, by go_num, ST.out h3⟩
        case measure => simp [intOf]; omega
      case inr.inl =>
        subst h2
        rcases h1 with h1 | h1
        all_goals
          go_wp2
          all_goals (go_ret; exact ⟨ret_bool (BAD.out h3).symm, rfl⟩)
      case inr.inr.inl =>
        have h6 : ((s[k].toNat : Int) != 45) = true := by simpa using h4
        have h7 : ((k : Int) == 0) = false := by simp; omega
        clear h4
        rcases h1 with h1 | h1
        all_goals
          go_wp2
          all_goals (go_ret; exact ⟨ret_bool (BAD.out h5).symm, rfl⟩)
      case inr.inr.inr.inl =>
        have h6 : ((s[k].toNat : Int) != 45) = false := by simpa using h4
        have h7 : ((k : Int) == 0) = false := by simp; omega
        clear h4
        rcases h1 with h1 | h1
        all_goals
          go_wp2
          all_goals
            go_round
            case rel => exact ⟨k + 1, by omega, by go_num, ST.out h5⟩
            case measure => simp [intOf]; omega
      case inr.inr.inr.inr.inl =>
        have h6 : ((s[k].toNat : Int) != 45) = true := by simp; omega
        have h7 : ((k : Int) == 0) = false := by simp; omega
        rcases h1 with h1 | h1
        all_goals
          go_wp2
          all_goals (go_ret; exact ⟨ret_bool (BAD.out h5).symm, rfl⟩)
      case inr.inr.inr.inr.inr =>
        have h7 : ((k : Int) == 0) = false := by simp; omega
        rcases h1 with h1 | h1
        all_goals
          go_wp2
          all_goals
            go_round
            case rel => exact ⟨k + 1, by omega, by go_num, ST.out h5⟩
            case measure => simp [intOf]; omega
    · obtain rfl : s.size = k := by omega
      have G := Lib.hid (isCode_good hgood.out)
      clear hgood
      by_cases h1 : 1 ≤ s.size
      · go_wp2
        go_ret
        exact ⟨ret_bool (by rw [G.out]; simp [h1]; omega), rfl⟩
      · go_wp2
        go_ret
        exact ⟨ret_bool (by rw [G.out]; simp [h1]), rfl⟩
end Go.Proofs.Ytnhkpdaogclfjaa
