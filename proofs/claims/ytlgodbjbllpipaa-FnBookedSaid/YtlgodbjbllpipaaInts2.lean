/- The walks of Apportion. -/
import Derived.Test.YtlgodbjbllpipaaInts
namespace Go.Proofs.Ytlgodbjbllpipaa
open Go.ChangeShapes Go.WideShapes Go.ChangeAt Go.RowKit

theorem intInfo : (Try.prog.info? 3).map (fun i => (i.zero, i.size, i.bytes)) = some (some (.int .i64 0), 1, 8) := by kernel_rfl
def appTo (t : Int) (l : List Int) (k : Nat) : List Int := (List.range k).map fun j => shareI t l (j + 1) - shareI t l j
theorem appTo_zero (t : Int) (l : List Int) : appTo t l 0 = [] := rfl
theorem appTo_succ (t : Int) (l : List Int) (k : Nat) : appTo t l (k + 1) = appTo t l k ++ [shareI t l (k + 1) - shareI t l k] := by simp [appTo, List.range_succ]
theorem appTo_len (t : Int) (l : List Int) (k : Nat) : (appTo t l k).length = k := by simp [appTo]
def appOut (t : Int) (l : List Int) : List Int := if shareOk t l then appTo t l l.length else []
theorem shareOk_areW {t : Int} {l : List Int} (h : shareOk t l = true) : areW l = true ∧ -1000000000 ≤ t ∧ t ≤ 1000000000 := by
  simp only [shareOk, Bool.and_eq_true, inB_true] at h; exact h
theorem shareOk_pos {t : Int} {l : List Int} (h : shareOk t l = true) : 0 < l.length ∧ l.length ≤ 40 := by
  obtain ⟨_, h2, h3⟩ := areW_ups (shareOk_areW h).1
  refine ⟨?_, h2⟩
  cases l
  · simp at h3
  · simp
theorem shareAt_ok {t : Int} {l : List Int} (h : shareOk t l = true) {k : Nat} (hk : k ≤ l.length) : shareAt t l (k : Int) = shareI t l k ∧ (shareOk t l && inB (k : Int) 0 (l.length : Int)) = true := by
  have e : (shareOk t l && inB (k : Int) 0 (l.length : Int)) = true := by rw [h, Bool.true_and, inB_true]; omega
  exact ⟨by rw [shareAt, if_pos e, Int.toNat_natCast], e⟩

end Go.Proofs.Ytlgodbjbllpipaa
