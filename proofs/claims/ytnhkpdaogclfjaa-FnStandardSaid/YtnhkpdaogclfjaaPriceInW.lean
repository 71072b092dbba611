/- The walks of PriceIn. -/
import Derived.Test.YtnhkpdaogclfjaaSNeed
import Derived.Test.YtnhkpdaogclfjaaIn
import Derived.Test.YtnhkpdaogclfjaaTextEq
namespace Go.Proofs.Ytnhkpdaogclfjaa
open Go.ChangeShapes Go.WideShapes Go.ChangeAt Go.RowKit

def priceHit (s : ByteArray) (x : Nd) : Bool := decide (x.code = s) && inB x.qty 0 10000
def priceIn (l : List Nd) (s : ByteArray) : Int := match l.find? (priceHit s) with | some x => x.qty | none => 0
theorem priceIn_hit {l : List Nd} {s : ByteArray} {k : Nat} {x : Nd} (hx : l[k]? = some x) (h : priceHit s x = true) (hb : ∀ (j : Nat) (y : Nd), j < k → l[j]? = some y → priceHit s y = false) : priceIn l s = x.qty := by
  have hk := (List.getElem?_eq_some_iff.1 hx).1
  have : l.find? (priceHit s) = some x := by
    rw [List.find?_eq_some_iff_getElem]
    refine ⟨h, k, hk, (List.getElem?_eq_some_iff.1 hx).2, fun j hj => ?_⟩
    have := hb j l[j] hj (List.getElem?_eq_getElem (by omega))
    simp [this]
  simp [priceIn, this]
theorem priceIn_none {l : List Nd} {s : ByteArray} (hb : ∀ (j : Nat) (y : Nd), l[j]? = some y → priceHit s y = false) : priceIn l s = 0 := by
  have : l.find? (priceHit s) = none := by
    rw [List.find?_eq_none]
    intro y hy
    obtain ⟨j, hj, rfl⟩ := List.getElem_of_mem hy
    simp [hb j l[j] (List.getElem?_eq_getElem hj)]
  simp [priceIn, this]
set_option maxHeartbeats 1000000 in
theorem implPriceIn (A : Option Addr) (n c : Nat) (l : List Nd) (s : ByteArray) (w : World) (hr : RS w 2 A n (l.flatMap ndCell)) (hn : n ≤ 9223372036854775807) :
    Calls Try.prog 25 #[.slice A n c, .string s] w fun e w' => e = .returned (.int .i64 (priceIn l s)) ∧ Below w.heap.size w w' := by
  have hl := Lib.hid (hr.flatLen ndCell_len (by omega))
  go_enter Try.func25, Try.ntmps25
  go_wp2
  go_loopw [9] (fun i wr => ∃ k : Nat, k ≤ n ∧ i = .int .i64 k ∧ Below w.heap.size w wr ∧ Hid (∀ (j : Nat) (y : Nd), j < k → l[j]? = some y → priceHit s y = false)) (fun i _ => n - (intOf i).toNat)
  case atStart => exact ⟨0, Nat.zero_le _, rfl, Below.refl _ _, fun j y h => absurd h (Nat.not_lt_zero _)⟩
  case round =>
    obtain ⟨k, hk, rfl, hb, hno⟩ := hrel
    have hz := hb.size
    by_cases hlt : k < n
    · obtain ⟨g, off, rfl, ⟨code, qty⟩, hx, hc0, hc1⟩ := (hr.below hb).ndAt hlt
      simp only at hc0 hc1
      have i1 : (0 : Int) ≤ k := by omega
      have i2 : (k : Int) < n := by omega
      have step : priceHit s ⟨code, qty⟩ = false → ∀ (j : Nat) (y : Nd), j < k + 1 → l[j]? = some y → priceHit s y = false := fun h j y hj hy => by
        rcases Nat.lt_succ_iff_lt_or_eq.1 hj with h' | rfl
        · exact hno.out j y h' hy
        · rw [hx] at hy; injection hy with hy; rw [← hy]; exact h
      have ST := Lib.hid step; clear step
      have HX := Lib.hid hx; clear hx
      by_cases hcode : code = s
      · subst hcode
        cases hq : inB qty 0 10000
        · have HH := Lib.hid (show priceHit code ⟨code, qty⟩ = false by simp [priceHit, hq])
          go_wp2_with (go_at_call 36; refine (impl_in _ _ _ _).mono ?_; rw [hq]; rintro e w' ⟨rfl, rfl⟩)
          go_roundw
          case rel => exact ⟨k + 1, by omega, by go_num, by first | exact hb | exact hb.alloc hz _, ST.out HH.out⟩
          case measure => simp [intOf]; omega
        · have HH := Lib.hid (priceIn_hit HX.out (show priceHit code ⟨code, qty⟩ = true by simp [priceHit, hq]) hno.out)
          go_wp2_with (go_at_call 36; refine (impl_in _ _ _ _).mono ?_; rw [hq]; rintro e w' ⟨rfl, rfl⟩)
          go_ret
          exact ⟨ret_int (by rw [HH.out]), by first | exact hb | exact hb.alloc hz _⟩
      · have HH := Lib.hid (show priceHit s ⟨code, qty⟩ = false by simp [priceHit, hcode])
        have hne := text_ne hcode
        clear hcode
        go_wp2_with fail
        go_roundw
        case rel => exact ⟨k + 1, by omega, by go_num, by first | exact hb | exact hb.alloc hz _, ST.out HH.out⟩
        case measure => simp [intOf]; omega
    · obtain rfl : n = k := by omega
      have HH := Lib.hid (priceIn_none (s := s) (fun j y hy => hno.out j y (by rw [← hl.out]; exact (List.getElem?_eq_some_iff.1 hy).1) hy))
      clear hno
      go_wp2_with fail
      go_ret
      exact ⟨ret_int (by rw [HH.out]), hb⟩
set_option maxHeartbeats 1000000 in
theorem specPriceIn (A : Option Addr) (n c : Nat) (l : List Nd) (s : ByteArray) (w : World) (hr : RS w 2 A n (l.flatMap ndCell)) (hn : n ≤ 9223372036854775807) :
    Calls Try.prog 26 #[.slice A n c, .string s] w fun e w' => e = .returned (.int .i64 (priceIn l s)) ∧ Below w.heap.size w w' := by
  have hl := Lib.hid (hr.flatLen ndCell_len (by omega))
  go_enter Try.func26, Try.ntmps26
  go_wp2
  go_loopw [5] (fun i wr => ∃ k : Nat, k ≤ n ∧ i = .int .i64 k ∧ Below w.heap.size w wr ∧ Hid (∀ (j : Nat) (y : Nd), j < k → l[j]? = some y → priceHit s y = false)) (fun i _ => n - (intOf i).toNat)
  case atStart => exact ⟨0, Nat.zero_le _, rfl, Below.refl _ _, fun j y h => absurd h (Nat.not_lt_zero _)⟩
  case round =>
    obtain ⟨k, hk, rfl, hb, hno⟩ := hrel
    have hz := hb.size
    by_cases hlt : k < n
    · obtain ⟨g, off, rfl, ⟨code, qty⟩, hx, hc0, hc1⟩ := (hr.below hb).ndAt hlt
      simp only at hc0 hc1
      have i1 : (0 : Int) ≤ k := by omega
      have i2 : (k : Int) < n := by omega
      have step : priceHit s ⟨code, qty⟩ = false → ∀ (j : Nat) (y : Nd), j < k + 1 → l[j]? = some y → priceHit s y = false := fun h j y hj hy => by
        rcases Nat.lt_succ_iff_lt_or_eq.1 hj with h' | rfl
        · exact hno.out j y h' hy
        · rw [hx] at hy; injection hy with hy; rw [← hy]; exact h
      have ST := Lib.hid step; clear step
      have HX := Lib.hid hx; clear hx
      by_cases hcode : code = s
      · subst hcode
        cases hq : inB qty 0 10000
        · have HH := Lib.hid (show priceHit code ⟨code, qty⟩ = false by simp [priceHit, hq])
          go_wp2_with (go_at_call 30; refine (spec_in _ _ _ _).mono ?_; rw [hq]; rintro e w' ⟨rfl, rfl⟩)
          go_roundw
          case rel => exact ⟨k + 1, by omega, by go_num, by first | exact hb | exact hb.alloc hz _, ST.out HH.out⟩
          case measure => simp [intOf]; omega
        · have HH := Lib.hid (priceIn_hit HX.out (show priceHit code ⟨code, qty⟩ = true by simp [priceHit, hq]) hno.out)
          go_wp2_with (go_at_call 30; refine (spec_in _ _ _ _).mono ?_; rw [hq]; rintro e w' ⟨rfl, rfl⟩)
          go_ret
          exact ⟨ret_int (by rw [HH.out]), by first | exact hb | exact hb.alloc hz _⟩
      · have HH := Lib.hid (show priceHit s ⟨code, qty⟩ = false by simp [priceHit, hcode])
        have hne := text_ne hcode
        clear hcode
        go_wp2_with fail
        go_roundw
        case rel => exact ⟨k + 1, by omega, by go_num, by first | exact hb | exact hb.alloc hz _, ST.out HH.out⟩
        case measure => simp [intOf]; omega
    · obtain rfl : n = k := by omega
      have HH := Lib.hid (priceIn_none (s := s) (fun j y hy => hno.out j y (by rw [← hl.out]; exact (List.getElem?_eq_some_iff.1 hy).1) hy))
      clear hno
      go_wp2_with fail
      go_ret
      exact ⟨ret_int (by rw [HH.out]), hb⟩
end Go.Proofs.Ytnhkpdaogclfjaa
