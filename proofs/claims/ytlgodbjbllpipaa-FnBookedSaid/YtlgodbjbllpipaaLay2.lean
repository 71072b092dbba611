/- Layers as plain data: what comes and what is dropped. No condition. -/
import Derived.Test.YtlgodbjbllpipaaLay
namespace Go.Proofs.Ytlgodbjbllpipaa
open Go.RowKit

/-! ### layers that come, and layers that are dropped -/
def recvL (l : List Lay) (q v : Int) : List Lay := l ++ [⟨q, v, 0⟩]
def recvOut (l : List Lay) (q v : Int) : List Lay := if areLayers (recvL l q v) then recvL l q v else []
theorem recvOut_len (l : List Lay) (q v : Int) : (recvOut l q v).length ≤ 24 := by
  unfold recvOut; split
  · next h => exact areLayers_len h
  · simp
def left (x : Lay) : Bool := decide (x.u < x.q)
def dropTo (l : List Lay) (k : Nat) : List Lay := (l.take k).filter left
theorem dropTo_zero (l : List Lay) : dropTo l 0 = [] := by simp [dropTo]
theorem dropTo_yes {l : List Lay} {k : Nat} {x : Lay} (h : l[k]? = some x) (hx : x.u < x.q) : dropTo l (k + 1) = dropTo l k ++ [x] := by
  simp [dropTo, List.take_add_one, h, left, hx]
theorem dropTo_no {l : List Lay} {k : Nat} {x : Lay} (h : l[k]? = some x) (hx : ¬ x.u < x.q) : dropTo l (k + 1) = dropTo l k := by
  simp [dropTo, List.take_add_one, h, left, hx]
theorem dropTo_len (l : List Lay) (k : Nat) : (dropTo l k).length ≤ k := by
  unfold dropTo
  exact Nat.le_trans (List.length_filter_le _ _) (by simp; omega)
def dropOut (l : List Lay) : List Lay := if areLayers l then dropTo l l.length else []
theorem dropOut_len (l : List Lay) : (dropOut l).length ≤ 24 := by
  unfold dropOut; split
  · next h => exact Nat.le_trans (dropTo_len _ _) (areLayers_len h)
  · simp
end Go.Proofs.Ytlgodbjbllpipaa
