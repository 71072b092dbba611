/- Bills: the plain words. No condition. -/
import Derived.Test.YtnhkpdaogclfjaaBill
import Derived.Test.YtnhkpdaogclfjaaCondP
import Derived.Test.YtnhkpdaogclfjaaCatalog
import Derived.Test.YtnhkpdaogclfjaaCostP
namespace Go.Proofs.Ytnhkpdaogclfjaa

def egOf (cat : List It) (x : Bl) : Eg := ⟨(findAt cat x.par).toNat, (findAt cat x.part).toNat⟩
def egs (cat : List It) (l : List Bl) : List Eg := l.map (egOf cat)
def lineIn (cat : List It) (x : Bl) : Prop := 0 ≤ findAt cat x.par ∧ 0 ≤ findAt cat x.part
def kindAt (cat : List It) (s : ByteArray) : Int := match cat[(findAt cat s).toNat]? with | some x => x.kind | none => 0
def lineOk (cat : List It) (x : Bl) : Bool := decide (0 ≤ findAt cat x.par) && (decide (0 ≤ findAt cat x.part) && (!(kindAt cat x.par == 0) && (inB x.qty 1 1000 && (inB x.fr 0 999 && (inB x.un x.fr 999 && isCond x.cond)))))
def lvs (cat : List It) (l : List Bl) : List Int := lvIter (egs cat l) cat.length cat.length
def lvOk (cat : List It) (l : List Bl) : Bool := lvFix (egs cat l) cat.length
def isBills (cat : List It) (l : List Bl) : Bool := isCat cat && (decide (l.length ≤ 24) && (l.all (lineOk cat) && lvOk cat l))

theorem findAt_some {cat : List It} {s : ByteArray} (h : 0 ≤ findAt cat s) : ∃ (k : Nat) (x : It), findAt cat s = k ∧ cat[k]? = some x ∧ x.code = s := by
  unfold findAt at h ⊢
  cases hf : cat.findIdx? (fun x => decide (x.code = s)) with
  | none => rw [hf] at h; simp at h
  | some k =>
    rw [List.findIdx?_eq_some_iff_getElem] at hf
    obtain ⟨hk, hx, _⟩ := hf
    exact ⟨k, cat[k], rfl, List.getElem?_eq_getElem hk, by simpa using hx⟩
theorem findAt_lt {cat : List It} {s : ByteArray} (h : 0 ≤ findAt cat s) : (findAt cat s).toNat < cat.length := by
  obtain ⟨k, x, e, hx, _⟩ := findAt_some h
  have := (List.getElem?_eq_some_iff.1 hx).1
  omega
theorem egs_in {cat : List It} {l : List Bl} (h : ∀ x ∈ l, lineIn cat x) : egIn (egs cat l) cat.length := by
  intro e he
  obtain ⟨x, hx, rfl⟩ := List.mem_map.1 he
  have := h x hx
  exact ⟨findAt_lt this.1, findAt_lt this.2⟩
theorem egs_at {cat : List It} {l : List Bl} {j : Nat} {x : Bl} (h : l[j]? = some x) : (egs cat l)[j]? = some (egOf cat x) := by simp [egs, h]
theorem lvRound_take {es : List Eg} {L : List Int} {j : Nat} {e : Eg} (h : es[j]? = some e) : lvRound (es.take (j + 1)) L = lvStep (lvRound (es.take j) L) e := by
  simp [lvRound, List.take_add_one, h]
theorem lvStep_le {out : List Int} {e : Eg} {b : Int} (hq : e.q < out.length) (h : ∀ i, lvAt out i ≤ b) (i : Nat) : lvAt (lvStep out e) i ≤ b + 1 := by
  rw [lvStep_at hq]
  split
  · have := h e.p; omega
  · have := h i; omega
theorem lvRound_le : ∀ {es : List Eg} {out : List Int} {b : Int}, egIn es out.length → (∀ i, lvAt out i ≤ b) → ∀ i, lvAt (lvRound es out) i ≤ b + es.length
  | [], _, _, _, h, i => by simpa [lvRound] using h i
  | e :: es, out, b, hin, h, i => by
    have := lvRound_le (es := es) (out := lvStep out e) (b := b + 1) (fun x hx => by rw [lvStep_len]; exact hin x (by simp [hx])) (lvStep_le (hin e (by simp)).2 h) i
    show lvAt (lvRound es (lvStep out e)) i ≤ _
    simp only [List.length_cons]
    omega
theorem lvIter_le {es : List Eg} {n : Nat} (hin : egIn es n) : ∀ (r i : Nat), lvAt (lvIter es n r) i ≤ r * es.length
  | 0, i => by
    have : lvAt (lvIter es n 0) i = 0 := by
      unfold lvAt lvIter
      rw [List.getD_eq_getElem?_getD, List.getElem?_replicate]
      split <;> rfl
    rw [this]; simp
  | r + 1, i => by
    have := lvRound_le (es := es) (out := lvIter es n r) (by rw [lvIter_len]; exact hin) (lvIter_le hin r) i
    show lvAt (lvRound es (lvIter es n r)) i ≤ _
    rw [Int.natCast_add, Int.add_mul]
    omega
theorem lvIter_nonneg {es : List Eg} {n : Nat} (hin : egIn es n) (r i : Nat) : 0 ≤ lvAt (lvIter es n r) i := (lvDue_iter hin r i).1
theorem egIn_take {es : List Eg} {n : Nat} (h : egIn es n) (j : Nat) : egIn (es.take j) n := fun e he => h e (List.mem_of_mem_take he)
/-- The levels in the middle of a round: between the old ones and what the steps so far allow. -/
theorem lv_mid {es : List Eg} {n : Nat} (hin : egIn es n) (r j i : Nat) (hj : j ≤ es.length) : 0 ≤ lvAt (lvRound (es.take j) (lvIter es n r)) i ∧ lvAt (lvRound (es.take j) (lvIter es n r)) i ≤ r * es.length + j := by
  have h1 := lvRound_mono (es := es.take j) (out := lvIter es n r) (by rw [lvIter_len]; exact egIn_take hin j) i
  have h2 := lvIter_nonneg hin r i
  have h3 := lvRound_le (es := es.take j) (out := lvIter es n r) (by rw [lvIter_len]; exact egIn_take hin j) (lvIter_le hin r) i
  rw [List.length_take, Nat.min_eq_left hj] at h3
  omega
theorem lvAt_of {out : List Int} {i : Nat} {x : Int} (h : out[i]? = some x) : lvAt out i = x := by
  unfold lvAt; rw [List.getD_eq_getElem?_getD, h]; rfl
theorem lvAt_get {out : List Int} {i : Nat} (h : i < out.length) : out[i]? = some (lvAt out i) := by
  unfold lvAt; rw [List.getD_eq_getElem?_getD, List.getElem?_eq_getElem h]; rfl
theorem lvFix_last {es : List Eg} {n : Nat} (h : lvRound es (lvIter es n n) ≠ lvIter es n n) : lvFix es n = false := by simp [lvFix, h]
theorem isBills_true {cat : List It} {l : List Bl} (h : isBills cat l = true) : isCat cat = true ∧ l.length ≤ 24 ∧ (∀ x ∈ l, lineOk cat x = true) ∧ lvOk cat l = true := by
  simp only [isBills, Bool.and_eq_true, decide_eq_true_eq, List.all_eq_true] at h
  exact ⟨h.1, h.2.1, h.2.2.1, h.2.2.2⟩
theorem lineOk_true {cat : List It} {x : Bl} (h : lineOk cat x = true) : lineIn cat x ∧ kindAt cat x.par ≠ 0 ∧ 1 ≤ x.qty ∧ x.qty ≤ 1000 ∧ 0 ≤ x.fr ∧ x.fr ≤ 999 ∧ x.fr ≤ x.un ∧ x.un ≤ 999 ∧ isCond x.cond = true := by
  simp only [lineOk, Bool.and_eq_true, decide_eq_true_eq, inB_true, Bool.not_eq_true', beq_eq_false_iff_ne] at h
  obtain ⟨h1, h2, h3, h4, h5, h6, h7⟩ := h
  exact ⟨⟨h1, h2⟩, h3, h4.1, h4.2, h5.1, h5.2, h6.1, h6.2, h7⟩
theorem isCat_len {cat : List It} (h : isCat cat = true) : cat.length ≤ 12 := by
  simp only [isCat, Bool.and_eq_true, decide_eq_true_eq] at h
  exact h.2
end Go.Proofs.Ytnhkpdaogclfjaa
