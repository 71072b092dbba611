/- Texts that differ, in the walk's spelling. No condition. -/
import Derived.Test.YtnhkpdaogclfjaaBase
namespace Go.Proofs.Ytnhkpdaogclfjaa
open Go.ChangeShapes Go.WideShapes Go.ChangeAt Go.RowKit
theorem text_inj {a b : ByteArray} (h : a.toList = b.toList) : a = b := by
  rw [ByteArray.toList_eq, ByteArray.toList_eq] at h
  exact bytes_inj h
theorem text_ne {a b : ByteArray} (h : ¬ a = b) : ¬ a.toList = b.toList := fun e => h (text_inj e)
theorem text_neD {a b : ByteArray} (h : ¬ a = b) : decide (a.toList = b.toList) = false := by simpa using text_ne h
end Go.Proofs.Ytnhkpdaogclfjaa
