/- Balances of documents with one more: the plain laws. No condition. -/
import Derived.Test.YtefhgilnfdmnlaaTrialP
import Derived.Test.YtefhgilnfdmnlaaPost
namespace Go.Proofs.Ytefhgilnfdmnlaa
open Go.ChangeShapes Go.WideShapes Go.ChangeAt Go.RowKit

theorem areDocs_iff {l : List Doc} : areDocs l = true ↔ (∀ (j : Nat) (d : Doc), l[j]? = some d → docGood j d = true) ∧ l.length ≤ 120 :=
  ⟨fun h => ⟨(areDocs_true h).2, (areDocs_true h).1⟩, fun h => by rw [areDocs_good h.1]; simpa using h.2⟩
theorem with_last (ds : List Doc) (day : Int) (es : List En) : (withDoc ds day es)[ds.length]? = some ⟨(ds.length : Int) + 1, day, es⟩ := by simp [withDoc]
theorem with_old {ds : List Doc} {day : Int} {es : List En} {j : Nat} {d : Doc} (h : ds[j]? = some d) : (withDoc ds day es)[j]? = some d := by
  have := (List.getElem?_eq_some_iff.1 h).1
  unfold withDoc; rw [List.getElem?_append_left this]; exact h
theorem areDocs_with {ds : List Doc} {day : Int} {es : List En} (h : areDocs (withDoc ds day es) = true) : areDocs ds = true ∧ 0 ≤ day ∧ day ≤ 999 ∧ areEntries es = true ∧ ds.length ≤ 119 := by
  obtain ⟨h1, h2⟩ := areDocs_iff.1 h
  rw [withDoc_len] at h2
  have hl := h1 _ _ (with_last ds day es)
  simp only [docGood, Bool.and_eq_true, inB_true] at hl
  exact ⟨areDocs_iff.2 ⟨fun j d hd => h1 j d (with_old hd), by omega⟩, hl.2.1.1, hl.2.1.2, hl.2.2, by omega⟩
theorem docBal_eq (acc : ByteArray) (t : Int) (d : Doc) : docBal acc t d = if d.day ≤ t then sumAcc d.ents acc else 0 := by
  unfold docBal docPart sumAcc; rfl
theorem balance_with {ds : List Doc} {day : Int} {es : List En} (h : areDocs (withDoc ds day es) = true) (acc : ByteArray) (t : Int) : balanceOf (withDoc ds day es) acc t = balanceOf ds acc t + if day ≤ t then sumAcc es acc else 0 := by
  obtain ⟨h1, _⟩ := areDocs_with h
  rw [balanceOf, if_pos h, balanceOf, if_pos h1, balTo, withDoc_len, sumF_succ _ (with_last ds day es), docBal_eq]
  have : sumF (docBal acc t) (withDoc ds day es) ds.length = balTo ds acc t ds.length := by simp [balTo, sumF, withDoc]
  rw [this]
theorem balance_bd (ds : List Doc) (acc : ByteArray) (t : Int) : -1440000000000 ≤ balanceOf ds acc t ∧ balanceOf ds acc t ≤ 1440000000000 := by
  unfold balanceOf
  split
  · rename_i h; exact bal_bd h acc t _ (Nat.le_refl _)
  · omega
theorem areEntries_bd {es : List En} (h : areEntries es = true) (acc : ByteArray) (k : Nat) (hk : k ≤ es.length) : -12000000000 ≤ sumF (entHit acc) es k ∧ sumF (entHit acc) es k ≤ 12000000000 := by
  have b := sumF_bd (M := 1000000000) (hit_bd h acc) k hk
  have := (areEntries_true h).2.2.2
  omega
end Go.Proofs.Ytefhgilnfdmnlaa
