/- Documents: the walks of AreDocuments. -/
import Derived.Test.YtlgodbjbllpipaaDoc
import Derived.Test.YtlgodbjbllpipaaLedgerA
namespace Go.Proofs.Ytlgodbjbllpipaa
open Go.ChangeShapes Go.WideShapes Go.ChangeAt Go.RowKit

def docGood (k : Nat) (d : Doc) : Bool := (d.num == (k : Int) + 1) && (inB d.day 0 999 && areEntries d.ents)
def areDocs (l : List Doc) : Bool := (List.range l.length).all (fun k => match l[k]? with | some d => docGood k d | none => true) && decide (l.length ≤ 120)
theorem areDocs_bad {l : List Doc} {k : Nat} {d : Doc} (hx : l[k]? = some d) (h : docGood k d = false) : areDocs l = false := by
  have hk := (List.getElem?_eq_some_iff.1 hx).1
  have : (List.range l.length).all (fun k => match l[k]? with | some d => docGood k d | none => true) = false := by
    rw [List.all_eq_false]; exact ⟨k, List.mem_range.2 hk, by simp [hx, h]⟩
  simp [areDocs, this]
theorem areDocs_good {l : List Doc} (h : ∀ (j : Nat) (d : Doc), l[j]? = some d → docGood j d = true) : areDocs l = decide (l.length ≤ 120) := by
  have : (List.range l.length).all (fun k => match l[k]? with | some d => docGood k d | none => true) = true := by
    rw [List.all_eq_true]; intro j hj
    have hj' := List.mem_range.1 hj
    have hx : l[j]? = some l[j] := List.getElem?_eq_getElem hj'
    simp only [hx]
    exact h j _ hx
  simp [areDocs, this]
theorem areDocs_true {l : List Doc} (h : areDocs l = true) : l.length ≤ 120 ∧ ∀ (j : Nat) (d : Doc), l[j]? = some d → docGood j d = true := by
  simp only [areDocs, Bool.and_eq_true, List.all_eq_true, List.mem_range, decide_eq_true_eq] at h
  refine ⟨h.2, fun j d hd => ?_⟩
  have := h.1 j (List.getElem?_eq_some_iff.1 hd).1
  simpa [hd] using this
/-- What the walks ask of documents that come in. -/
def docsSmall (l : List Doc) : Prop := ∀ d ∈ l, d.ents.length ≤ 1048600 ∧ ∀ x ∈ d.ents, x.acc.size ≤ 9223372036854775807
theorem docs_are {l : List Doc} (h : ∀ d ∈ l, d.ents.length ≤ 1048576) (hok : ∀ d ∈ l, docOk d) : docsSmall l := fun d hd => ⟨Nat.le_trans (h d hd) (by omega), fun x hx => ((hok d hd).2.2.2 x hx).1⟩
theorem doc_ways (k : Nat) (d : Doc) : (d.num != (k : Int) + 1) = true ∨ ((d.num != (k : Int) + 1) = false ∧ inB d.day 0 999 = false) ∨ ((d.num != (k : Int) + 1) = false ∧ inB d.day 0 999 = true ∧ areEntries d.ents = false) ∨ ((d.num != (k : Int) + 1) = false ∧ inB d.day 0 999 = true ∧ areEntries d.ents = true) := by
  cases d.num != (k : Int) + 1 <;> cases inB d.day 0 999 <;> cases areEntries d.ents <;> simp

set_option maxRecDepth 100000 in
set_option maxHeartbeats 4000000 in
theorem implAreDocs (A : Option Addr) (n c : Nat) (l : List Doc) (w : World) (hr : DocsR w A n l) (hn : n ≤ 1048600) (hok : docsSmall l) :
    Calls Try.prog 48 #[.slice A n c] w fun e w' => e = .returned (.bool (areDocs l)) ∧ Below w.heap.size w w' := by
  have hl := Lib.hid hr.len
  have OK := Lib.hid hok; clear hok
  go_enter Try.func48, Try.ntmps48
  go_wp2
  go_loopw [7] (fun i wr => ∃ k : Nat, k ≤ n ∧ i = .int .i64 k ∧ Below w.heap.size w wr ∧ Hid (∀ (j : Nat) (d : Doc), j < k → l[j]? = some d → docGood j d = true)) (fun i _ => n - (intOf i).toNat)
  case atStart => exact ⟨0, Nat.zero_le _, rfl, Below.refl _ _, fun j x h => absurd h (Nat.not_lt_zero _)⟩
  case round =>
    obtain ⟨k, hk, rfl, hb, hgood⟩ := hrel
    have hz := hb.size
    by_cases hlt : k < n
    · obtain ⟨g, off, rfl, ⟨num, day, ents⟩, eA, en, ec, hx, h0, h1, h2, hre⟩ := (hr.below hb).docAt hlt
      have hsm := Lib.hid (OK.out _ (List.mem_of_getElem? hx))
      have hel := hre.flatLen enCell_len (by omega)
      have hen : en ≤ 1048600 := by rw [← hel]; exact hsm.out.1
      simp only at h0 h1 h2 hre hsm
      have HX := Lib.hid hx; clear hx hel
      have i1 : (0 : Int) ≤ k := by omega
      have i2 : (k : Int) < n := by omega
      rcases doc_ways k ⟨num, day, ents⟩ with q1 | ⟨q1, q2⟩ | ⟨q1, q2, q3⟩ | ⟨q1, q2, q3⟩
      case inl =>
        simp only at q1
        have BAD := Lib.hid (areDocs_bad HX.out (show docGood k ⟨num, day, ents⟩ = false by simp at q1; simp [docGood, q1]))
        go_wp2_with fail
        go_ret
        exact ⟨ret_bool BAD.out.symm, hb.alloc hz _⟩
      case inr.inl =>
        simp only at q1 q2
        have BAD := Lib.hid (areDocs_bad HX.out (show docGood k ⟨num, day, ents⟩ = false by simp [docGood, q2]))
        go_wp2_with (go_at_call 47; refine (impl_in _ _ _ _).mono ?_; rw [q2]; rintro e w' ⟨rfl, rfl⟩)
        go_ret
        exact ⟨ret_bool BAD.out.symm, hb.alloc hz _⟩
      case inr.inr.inl =>
        simp only at q1 q2 q3
        have BAD := Lib.hid (areDocs_bad HX.out (show docGood k ⟨num, day, ents⟩ = false by simp [docGood, q3]))
        go_wp2_with fail
        refine (impl_in _ _ _ _).mono ?_; rw [q2]; rintro e w' ⟨rfl, rfl⟩
        go_wp2_with fail
        refine (implAreEntries _ _ _ ents _ (by first | exact hre | exact hre.alloc _) hen hsm.out.2).mono ?_; rw [q3]; rintro e w2 ⟨rfl, hb2⟩
        have b2 := below_app (hb.alloc hz _) hb2 (by first | omega | (simp only [World.size_alloc]; omega))
        go_wp2_with fail
        go_ret
        exact ⟨ret_bool BAD.out.symm, b2⟩
      case inr.inr.inr =>
        simp only at q1 q2 q3
        have GOOD := Lib.hid (show docGood k ⟨num, day, ents⟩ = true by simp at q1; simp [docGood, q1, q2, q3])
        go_wp2_with fail
        refine (impl_in _ _ _ _).mono ?_; rw [q2]; rintro e w' ⟨rfl, rfl⟩
        go_wp2_with fail
        refine (implAreEntries _ _ _ ents _ (by first | exact hre | exact hre.alloc _) hen hsm.out.2).mono ?_; rw [q3]; rintro e w2 ⟨rfl, hb2⟩
        have b2 := below_app (hb.alloc hz _) hb2 (by first | omega | (simp only [World.size_alloc]; omega))
        go_wp2_with fail
        go_roundw
        case rel =>
          refine ⟨k + 1, by omega, by go_num, b2, fun j y hj hy => ?_⟩
          rcases Nat.lt_succ_iff_lt_or_eq.1 hj with h | rfl
          · exact hgood.out j y h hy
          · rw [HX.out] at hy; injection hy with hy; rw [← hy]; exact GOOD.out
        case measure => simp [intOf]; omega
    · obtain rfl : n = k := by omega
      have AG := Lib.hid (areDocs_good fun j x hx => hgood.out j x (by rw [← hl.out]; exact (List.getElem?_eq_some_iff.1 hx).1) hx)
      rw [hl.out] at AG
      clear hgood
      go_wp2_with fail
      go_ret
      exact ⟨ret_bool (by rw [AG.out]; simp; omega), hb⟩
set_option maxRecDepth 100000 in
set_option maxHeartbeats 4000000 in
theorem specAreDocs (A : Option Addr) (n c : Nat) (l : List Doc) (w : World) (hr : DocsR w A n l) (hn : n ≤ 1048600) (hok : docsSmall l) :
    Calls Try.prog 44 #[.slice A n c] w fun e w' => e = .returned (.bool (areDocs l)) ∧ Below w.heap.size w w' := by
  have hl := Lib.hid hr.len
  have OK := Lib.hid hok; clear hok
  go_enter Try.func44, Try.ntmps44
  go_wp2
  go_loopw [3] (fun i wr => ∃ k : Nat, k ≤ n ∧ i = .int .i64 k ∧ Below w.heap.size w wr ∧ Hid (∀ (j : Nat) (d : Doc), j < k → l[j]? = some d → docGood j d = true)) (fun i _ => n - (intOf i).toNat)
  case atStart => exact ⟨0, Nat.zero_le _, rfl, Below.refl _ _, fun j x h => absurd h (Nat.not_lt_zero _)⟩
  case round =>
    obtain ⟨k, hk, rfl, hb, hgood⟩ := hrel
    have hz := hb.size
    by_cases hlt : k < n
    · obtain ⟨g, off, rfl, ⟨num, day, ents⟩, eA, en, ec, hx, h0, h1, h2, hre⟩ := (hr.below hb).docAt hlt
      have hsm := Lib.hid (OK.out _ (List.mem_of_getElem? hx))
      have hel := hre.flatLen enCell_len (by omega)
      have hen : en ≤ 1048600 := by rw [← hel]; exact hsm.out.1
      simp only at h0 h1 h2 hre hsm
      have HX := Lib.hid hx; clear hx hel
      have i1 : (0 : Int) ≤ k := by omega
      have i2 : (k : Int) < n := by omega
      rcases doc_ways k ⟨num, day, ents⟩ with q1 | ⟨q1, q2⟩ | ⟨q1, q2, q3⟩ | ⟨q1, q2, q3⟩
      case inl =>
        simp only at q1
        have BAD := Lib.hid (areDocs_bad HX.out (show docGood k ⟨num, day, ents⟩ = false by simp at q1; simp [docGood, q1]))
        go_wp2_with fail
        go_ret
        exact ⟨ret_bool BAD.out.symm, hb⟩
      case inr.inl =>
        simp only at q1 q2
        have BAD := Lib.hid (areDocs_bad HX.out (show docGood k ⟨num, day, ents⟩ = false by simp [docGood, q2]))
        go_wp2_with (go_at_call 43; refine (spec_in _ _ _ _).mono ?_; rw [q2]; rintro e w' ⟨rfl, rfl⟩)
        go_ret
        exact ⟨ret_bool BAD.out.symm, hb⟩
      case inr.inr.inl =>
        simp only at q1 q2 q3
        have BAD := Lib.hid (areDocs_bad HX.out (show docGood k ⟨num, day, ents⟩ = false by simp [docGood, q3]))
        go_wp2_with fail
        refine (spec_in _ _ _ _).mono ?_; rw [q2]; rintro e w' ⟨rfl, rfl⟩
        go_wp2_with fail
        refine (specAreEntries _ _ _ ents _ (by first | exact hre | exact hre.alloc _) hen hsm.out.2).mono ?_; rw [q3]; rintro e w2 ⟨rfl, hb2⟩
        have b2 := below_app (hb) hb2 (by first | omega | (simp only [World.size_alloc]; omega))
        go_wp2_with fail
        go_ret
        exact ⟨ret_bool BAD.out.symm, b2⟩
      case inr.inr.inr =>
        simp only at q1 q2 q3
        have GOOD := Lib.hid (show docGood k ⟨num, day, ents⟩ = true by simp at q1; simp [docGood, q1, q2, q3])
        go_wp2_with fail
        refine (spec_in _ _ _ _).mono ?_; rw [q2]; rintro e w' ⟨rfl, rfl⟩
        go_wp2_with fail
        refine (specAreEntries _ _ _ ents _ (by first | exact hre | exact hre.alloc _) hen hsm.out.2).mono ?_; rw [q3]; rintro e w2 ⟨rfl, hb2⟩
        have b2 := below_app (hb) hb2 (by first | omega | (simp only [World.size_alloc]; omega))
        go_wp2_with fail
        go_roundw
        case rel =>
          refine ⟨k + 1, by omega, by go_num, b2, fun j y hj hy => ?_⟩
          rcases Nat.lt_succ_iff_lt_or_eq.1 hj with h | rfl
          · exact hgood.out j y h hy
          · rw [HX.out] at hy; injection hy with hy; rw [← hy]; exact GOOD.out
        case measure => simp [intOf]; omega
    · obtain rfl : n = k := by omega
      have AG := Lib.hid (areDocs_good fun j x hx => hgood.out j x (by rw [← hl.out]; exact (List.getElem?_eq_some_iff.1 hx).1) hx)
      rw [hl.out] at AG
      clear hgood
      go_wp2_with fail
      go_ret
      exact ⟨ret_bool (by rw [AG.out]; simp; omega), hb⟩
end Go.Proofs.Ytlgodbjbllpipaa
