/- The text of a mark: the walk of markText. -/
import Derived.Test.YtnhkpdaogclfjaaBase
import Derived.Laws.IdiomStrings
namespace Go.Proofs.Ytnhkpdaogclfjaa
open Go.ChangeShapes Go.WideShapes Go.ChangeAt Go.RowKit

/-- The digits of a number before a text. -/
def digitB (k : Nat) : UInt8 := UInt8.ofNat (48 + k % 10)
def digits : Nat → Nat → ByteArray → ByteArray
  | 0, _, out => out
  | f + 1, k, out => if k = 0 then out else digits f (k / 10) (ByteArray.mk #[digitB k] ++ out)
def mText (k : Nat) : ByteArray := ByteArray.mk #[109] ++ digits 40 k ByteArray.empty
end Go.Proofs.Ytnhkpdaogclfjaa
