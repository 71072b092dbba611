/- The text of a mark: the walk of markText. -/
import Derived.Test.YtlgodbjbllpipaaBase
import Derived.Laws.IdiomStrings
namespace Go.Proofs.Ytlgodbjbllpipaa
open Go.ChangeShapes Go.WideShapes Go.ChangeAt Go.RowKit

/-- The digits of a number before a text. -/
def digitB (k : Nat) : UInt8 := UInt8.ofNat (48 + k % 10)
def digits : Nat → Nat → ByteArray → ByteArray
  | 0, _, out => out
  | f + 1, k, out => if k = 0 then out else digits f (k / 10) (ByteArray.mk #[digitB k] ++ out)
def mText (k : Nat) : ByteArray := ByteArray.mk #[109] ++ digits 40 k ByteArray.empty
set_option maxRecDepth 100000 in
set_option maxHeartbeats 1000000 in
theorem markText_any (k : Nat) (w : World) (h0 : 0 < k) (hk : k ≤ 1000000000) : Calls Try.prog 89 #[.int .i64 k] w fun e w' => e = .returned (.string (mText k)) ∧ Below w.heap.size w w' := by
  go_enter Try.func89, Try.ntmps89
  go_wp2
  go_loopw [0, 3] (fun v o wr => ∃ (f x : Nat) (out : ByteArray), v = .int .i64 x ∧ o = .string out ∧ x ≤ 1000000000 ∧ x < 10 ^ f ∧ out.size + f ≤ 40 ∧ Hid (ByteArray.mk #[109] ++ digits f x out = mText k) ∧ Below w.heap.size w wr) (fun v _ _ => (intOf v).toNat)
  case atStart => exact ⟨40, k, ByteArray.empty, rfl, rfl, hk, by omega, by simp, rfl, Below.refl _ _⟩
  case round =>
    obtain ⟨f, x, out, rfl, rfl, hx, hf, ho, hd, hb⟩ := hrel
    by_cases hx0 : 0 < x
    · have hdg : ((digitB x).toNat : Int) = 48 + (x : Int) % 10 := by
        have : (digitB x).toNat = 48 + x % 10 := by
          simp only [digitB, UInt8.toNat_ofNat']
          omega
        omega
      have kc : (convert 48 9 (.slice (some ⟨wr.heap.size, 0, none⟩) 1 1)).run Try.prog (wr.alloc (Obj.cells #[.int .u8 (48 + (x : Int) % 10)] 5)) = .ok (.string ⟨#[digitB x]⟩) (wr.alloc (Obj.cells #[.int .u8 (48 + (x : Int) % 10)] 5)) :=
        run_convert_bytes_back (P := Try.prog) _ 48 9 5 ⟨wr.heap.size, 0, none⟩ 1 [digitB x] Try.underlying48 Try.underlying5 Try.underlying9 (fun j hj => by
          have : j = 0 := by simpa using hj
          subst this
          rw [← hdg]
          exact box_cell rfl)
      have hs1 : (ByteArray.mk #[digitB x]).size = 1 := rfl
      obtain ⟨f', rfl⟩ : ∃ f', f = f' + 1 := by
        cases f with
        | zero => simp at hf; omega
        | succ f => exact ⟨f, rfl⟩
      have hp : x / 10 < 10 ^ f' := by
        rw [Nat.pow_succ] at hf; omega
      have HP := Lib.hid hp
      have D := Lib.hid (show digits (f' + 1) x out = digits f' (x / 10) (ByteArray.mk #[digitB x] ++ out) by
        have : ¬ x = 0 := by omega
        simp only [digits, if_neg this])
      have HS := Lib.hid (show (ByteArray.mk #[digitB x] ++ out).size = 1 + out.size by rw [ByteArray.size_append]; rfl)
      clear hdg hf hp
      go_wp2
      go_roundw
      case rel => exact ⟨f', x / 10, ByteArray.mk #[digitB x] ++ out, by go_num, rfl, by omega, HP.out, by rw [HS.out]; omega, by rw [Hid, ← D.out]; exact hd.out, hb.alloc hb.size _⟩
      case measure => simp [intOf]; omega
    · obtain rfl : x = 0 := by omega
      have E := Lib.hid (show ByteArray.mk #[109] ++ out = mText k by
        have : digits f 0 out = out := by cases f <;> simp [digits]
        rw [← hd.out, this])
      clear hd
      go_wp2
      go_ret
      exact ⟨by rw [← E.out]; rfl, hb⟩
end Go.Proofs.Ytlgodbjbllpipaa
