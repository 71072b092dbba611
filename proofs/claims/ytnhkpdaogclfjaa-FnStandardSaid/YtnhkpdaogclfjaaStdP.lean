/- Standard costs: the plain words. No condition. -/
import Derived.Test.YtnhkpdaogclfjaaCostsW
import Derived.Test.YtnhkpdaogclfjaaPricesW
namespace Go.Proofs.Ytnhkpdaogclfjaa
open Go.RowKit

def stdOk (cat : List It) (l : List Bl) (pr : List Nd) (s : ByteArray) : Bool := isBills cat l && (arePrices cat pr && decide (0 ≤ findAt cat s))
def stdC (cat : List It) (l : List Bl) (pr : List Nd) (s : ByteArray) (day : Int) (ch : List Pk) : Int := costS (force l day ch) (priceIn pr) cat.length s
def stdB (cat : List It) (l : List Bl) (pr : List Nd) (s : ByteArray) (day : Int) (ch : List Pk) : Bool := stdOk cat l pr s && decide (0 ≤ stdC cat l pr s day ch)
def stdN (cat : List It) (l : List Bl) (pr : List Nd) (s : ByteArray) (day : Int) (ch : List Pk) : Int := if stdB cat l pr s day ch then stdC cat l pr s day ch else 0
def lvl (cat : List It) (l : List Bl) (s : ByteArray) : Int := lvAt (lvs cat l) (findAt cat s).toNat
theorem std_no {cat : List It} {l : List Bl} {pr : List Nd} {s : ByteArray} {day : Int} {ch : List Pk} (h : stdB cat l pr s day ch = false) : stdN cat l pr s day ch = 0 := by rw [stdN, h]; rfl
theorem std_yes {cat : List It} {l : List Bl} {pr : List Nd} {s : ByteArray} {day : Int} {ch : List Pk} (h : stdB cat l pr s day ch = true) : stdN cat l pr s day ch = stdC cat l pr s day ch := by rw [stdN, if_pos h]
theorem find_size {cat : List It} {s : ByteArray} (hc : isCat cat = true) (h : 0 ≤ findAt cat s) : s.size ≤ 8 := by
  obtain ⟨k, x, _, hx, rfl⟩ := findAt_some h
  have hk := (List.getElem?_eq_some_iff.1 hx).1
  simp only [isCat, Bool.and_eq_true] at hc
  have h1 : catOk cat k x = true := by
    have := hc.1
    rw [allAt, List.all_eq_true] at this
    have := this k (List.mem_range.2 hk)
    rw [hx] at this
    exact this
  simp only [catOk, isItem, Bool.and_eq_true] at h1
  exact (isCode_len h1.1.1).2
theorem lvs_len (cat : List It) (l : List Bl) : (lvs cat l).length = cat.length := lvIter_len _ _ _
theorem bills_in {cat : List It} {l : List Bl} (h : isBills cat l = true) : ∀ x ∈ l, lineIn cat x := fun x hx => (lineOk_true ((isBills_true h).2.2.1 x hx)).1
theorem bills_still {cat : List It} {l : List Bl} (h : isBills cat l = true) : lvRound (egs cat l) (lvs cat l) = lvs cat l := by
  have := (isBills_true h).2.2.2
  simpa [lvOk, lvFix, lvs] using this
theorem bills_rise {cat : List It} {l : List Bl} (h : isBills cat l = true) {x : Bl} (hx : x ∈ l) : lvl cat l x.par < lvl cat l x.part := by
  have hin := egs_in (bills_in h)
  exact lvRound_still (by rw [lvs_len]; exact hin) (bills_still h) (egOf cat x) (List.mem_map.2 ⟨x, hx, rfl⟩)
theorem lvl_bd {cat : List It} {l : List Bl} {s : ByteArray} (h : isBills cat l = true) (hs : 0 ≤ findAt cat s) : 0 ≤ lvl cat l s ∧ lvl cat l s < cat.length := by
  have hin := egs_in (bills_in h)
  exact lv_small (r := cat.length) hin (bills_still h) (findAt_lt hs)
theorem force_sub {l : List Bl} {day : Int} {ch : List Pk} {x : Bl} (h : x ∈ force l day ch) : x ∈ l := (List.mem_filter.1 h).1
theorem rises_of {cat : List It} {l : List Bl} (h : isBills cat l = true) (day : Int) (ch : List Pk) : Rises (force l day ch) (lvl cat l) cat.length := fun x hx => by
  have hl := force_sub hx
  have hi := bills_in h x hl
  have hq := lineOk_true ((isBills_true h).2.2.1 x hl)
  have hb := lvl_bd h hi.2
  exact ⟨hb.1, hb.2, bills_rise h hl, hq.2.2.1, hq.2.2.2.1⟩
end Go.Proofs.Ytnhkpdaogclfjaa
