/- The walks of ReverseNumber. No condition. -/
import Derived.Test.YtefhgilnfdmnlaaPost
import Derived.Test.YtefhgilnfdmnlaaLedgerB
namespace Go.Proofs.Ytefhgilnfdmnlaa
open Go.ChangeShapes Go.WideShapes Go.ChangeAt Go.RowKit

def entsOf (ds : List Doc) (b : Int) : List En := match ds[(b - 1).toNat]? with | some d => d.ents | none => []
def revAt (ds : List Doc) (b : Int) : Bool := areDocs ds && inB b 1 (ds.length : Int)
def revDocs (ds : List Doc) (b day : Int) : List Doc := if revAt ds b then postDocs ds day (negEn (entsOf ds b)) else []
def revOk (ds : List Doc) (b day : Int) : Bool := revAt ds b && areDocs (withDoc ds day (negEn (entsOf ds b)))
theorem entsOf_at {ds : List Doc} {k : Nat} {d : Doc} (h : ds[k]? = some d) : entsOf ds ((k : Int) + 1) = d.ents := by
  have : ((k : Int) + 1 - 1).toNat = k := by omega
  simp [entsOf, h]
theorem negEn_ok {l : List En} (h : ∀ x ∈ l, x.acc.size ≤ 9223372036854775807) : ∀ x ∈ negEn l, x.acc.size ≤ 9223372036854775807 := by
  intro x hx
  obtain ⟨y, hy, rfl⟩ := List.mem_map.1 hx
  exact h y hy
theorem rev_size2 (ds : List Doc) (b day : Int) : ((revDocs ds b day).length : Int) ≤ 121 ∧ ∀ d ∈ revDocs ds b day, d.ents.length ≤ 12 := by
  unfold revDocs
  split
  · rename_i h
    simp only [revAt, Bool.and_eq_true, inB_true] at h
    unfold postDocs
    split
    · rename_i h2
      have := (areDocs_true h2).1
      exact ⟨by omega, fun d hd => (areEntries_true (by
        obtain ⟨i, hi, rfl⟩ := List.getElem_of_mem hd
        have hg := (areDocs_true h2).2 i _ (List.getElem?_eq_getElem hi)
        simp only [docGood, Bool.and_eq_true] at hg
        exact hg.2.2)).2.2.2⟩
    · simp
  · simp
theorem kDoc_small {k0 : Int} {ds : List Doc} {n : Nat} (hl : ds.length = n) (h1 : (ds.length : Int) ≤ 121) (h2 : ∀ d ∈ ds, d.ents.length ≤ 12) : kDoc k0 ds n ≤ k0 + 2097200 ∧ k0 ≤ kDoc k0 ds n := by
  have key : ∀ k, k ≤ n → sumF docW ds k ≤ 26 * k := by
    intro k
    induction k with
    | zero => intro _; simp [sumF_zero]
    | succ k ih =>
      intro hk
      have hx : ds[k]? = some ds[k] := List.getElem?_eq_getElem (by omega)
      rw [sumF_succ _ hx]
      have := ih (by omega)
      have h3 := h2 ds[k] (List.getElem_mem _)
      have h4 : docW ds[k] = 2 + ds[k].ents.length * 2 := rfl
      omega
  have h1' := key n (Nat.le_refl _)
  have h2' := sumF_nonneg (f := docW) (l := ds) (fun x _ => docW_nonneg x) n
  unfold kDoc
  omega

set_option maxRecDepth 100000 in
set_option maxHeartbeats 4000000 in
theorem implReverse (A : Option Addr) (n c : Nat) (ds : List Doc) (b day : Int) (w : World) (hr : DocsR w A n ds) (hn : n ≤ 1048576) (hok : docsSmall ds) :
    Calls Try.prog 37 #[.slice A n c, .int .i64 b, .int .i64 day] w fun e w' => ∃ A' c', e = .returned (.tuple #[.slice A' (revDocs ds b day).length c', .bool (revOk ds b day)]) ∧
      DocsO w' w.heap.size w'.heap.size (.slice A' (revDocs ds b day).length c') (revDocs ds b day).length (revDocs ds b day) [] ∧ Below w.heap.size w w' := by
  have hl := Lib.hid hr.len
  have OK := Lib.hid hok; clear hok
  cases h1 : areDocs ds
  · have E1 := Lib.hid (show revDocs ds b day = [] by simp [revDocs, revAt, h1])
    have E2 := Lib.hid (show revOk ds b day = false by simp [revOk, revAt, h1])
    go_enter Try.func37, Try.ntmps37
    go_wp2_with fail
    refine (implAreDocs A n c ds _ hr (by omega) OK.out).mono ?_; rw [h1]; rintro e w1 ⟨rfl, b1⟩
    go_wp2_with fail
    go_ret2
    rw [E1.out, E2.out]
    exact ⟨_, _, rfl, DocsO.mono (DocsO.empty (World.ownsRow_nil _ _ _ _)) (Nat.le_refl _) (Nat.le_refl _), b1⟩
  · have h120 := (areDocs_true h1).1
    have H1 := Lib.hid h1
    cases h2 : inB b 1 (n : Int)
    · have E1 := Lib.hid (show revDocs ds b day = [] by simp [revDocs, revAt, hl.out, h2])
      have E2 := Lib.hid (show revOk ds b day = false by simp [revOk, revAt, hl.out, h2])
      clear h1
      go_enter Try.func37, Try.ntmps37
      go_wp2_with fail
      refine (implAreDocs A n c ds _ hr (by omega) OK.out).mono ?_; rw [H1.out]; rintro e w1 ⟨rfl, b1⟩
      go_wp2_with fail
      refine (impl_in _ _ _ _).mono ?_; rw [h2]; rintro e w2 ⟨rfl, rfl⟩
      go_wp2_with fail
      go_ret2
      rw [E1.out, E2.out]
      exact ⟨_, _, rfl, DocsO.mono (DocsO.empty (World.ownsRow_nil _ _ _ _)) (Nat.le_refl _) (Nat.le_refl _), b1⟩
    · have hb := inB_true.1 h2
      obtain ⟨k, rfl⟩ : ∃ k : Nat, b = (k : Int) + 1 := ⟨(b - 1).toNat, by omega⟩
      have hlt : k < n := by omega
      have E0 := Lib.hid (show revAt ds ((k : Int) + 1) = true by simp [revAt, h1, hl.out, h2])
      have H2 := Lib.hid h2
      rw [hl.out] at h120
      clear h1 h2
      go_enter Try.func37, Try.ntmps37
      go_wp2_with fail
      refine (implAreDocs A n c ds _ hr (by omega) OK.out).mono ?_; rw [H1.out]; rintro e w1 ⟨rfl, b1⟩
      go_wp2_with fail
      refine (impl_in _ _ _ _).mono ?_; rw [H2.out]; rintro e w2 ⟨rfl, rfl⟩
      obtain ⟨g, off, rfl, ⟨num, dday, ents⟩, eA, en, ec, hx, c0, c1, c2, hre⟩ := (hr.below b1).docAt hlt
      have hsm := OK.out _ (List.mem_of_getElem? hx)
      have hel := hre.flatLen enCell_len (by omega)
      simp only at c0 c1 c2 hre hsm hel
      have E3 := Lib.hid (entsOf_at hx)
      simp only at E3
      have hen : en ≤ 1048600 := by omega
      have F1 := Lib.hid (show revDocs ds ((k : Int) + 1) day = postDocs ds day (negEn ents) by rw [revDocs, if_pos E0.out, E3.out])
      have F2 := Lib.hid (show revOk ds ((k : Int) + 1) day = areDocs (withDoc ds day (negEn ents)) by rw [revOk, E0.out, E3.out, Bool.true_and])
      have SM := Lib.hid hsm
      have HL := Lib.hid hel
      clear hx hsm hel
      have i1 : (0 : Int) ≤ k := by omega
      have i2 : (k : Int) < n := by omega
      go_wp2_with fail
      refine (implNegate _ _ _ ents _ hre hen).mono ?_; rintro e w3 ⟨A3, c3, rfl, o3, hb3⟩
      have b3 := below_then b1 hb3
      go_wp2_with fail
      refine (implPost _ n c ds day _ _ _ (negEn ents) _ (hr.below b3) hn (RS.of_own o3) (by rw [negEn_len]; exact SM.out.1) OK.out (negEn_ok SM.out.2)).mono ?_; rintro e w4 ⟨A4, c4, rfl, D4, hb4⟩
      go_wp2_with fail
      go_ret2
      rw [F1.out, F2.out]
      exact ⟨_, _, rfl, D4.mono b3.size (Nat.le_refl _), below_then b3 hb4⟩
set_option maxRecDepth 100000 in
set_option maxHeartbeats 4000000 in
theorem specReverse (A : Option Addr) (n c : Nat) (ds : List Doc) (b day : Int) (w : World) (hr : DocsR w A n ds) (hn : n ≤ 1048576) (hok : docsSmall ds) :
    Calls Try.prog 36 #[.slice A n c, .int .i64 b, .int .i64 day] w fun e w' => ∃ A' c', e = .returned (.tuple #[.slice A' (revDocs ds b day).length c', .bool (revOk ds b day)]) ∧
      DocsO w' w.heap.size w'.heap.size (.slice A' (revDocs ds b day).length c') (revDocs ds b day).length (revDocs ds b day) [] ∧ Below w.heap.size w w' := by
  have hl := Lib.hid hr.len
  have OK := Lib.hid hok; clear hok
  cases h1 : areDocs ds
  · have E1 := Lib.hid (show revDocs ds b day = [] by simp [revDocs, revAt, h1])
    have E2 := Lib.hid (show revOk ds b day = false by simp [revOk, revAt, h1])
    go_enter Try.func36, Try.ntmps36
    go_wp2_with fail
    refine (specAreDocs A n c ds _ hr (by omega) OK.out).mono ?_; rw [h1]; rintro e w1 ⟨rfl, b1⟩
    go_wp2_with fail
    go_ret2
    rw [E1.out, E2.out]
    exact ⟨_, _, rfl, DocsO.mono (DocsO.empty (own_empty _ _ _ _ b1.size)) (Nat.le_refl _) (Nat.le_refl _), b1.alloc b1.size _⟩
  · have h120 := (areDocs_true h1).1
    have H1 := Lib.hid h1
    cases h2 : inB b 1 (n : Int)
    · have E1 := Lib.hid (show revDocs ds b day = [] by simp [revDocs, revAt, hl.out, h2])
      have E2 := Lib.hid (show revOk ds b day = false by simp [revOk, revAt, hl.out, h2])
      clear h1
      go_enter Try.func36, Try.ntmps36
      go_wp2_with fail
      refine (specAreDocs A n c ds _ hr (by omega) OK.out).mono ?_; rw [H1.out]; rintro e w1 ⟨rfl, b1⟩
      go_wp2_with fail
      refine (spec_in _ _ _ _).mono ?_; rw [h2]; rintro e w2 ⟨rfl, rfl⟩
      go_wp2_with fail
      go_ret2
      rw [E1.out, E2.out]
      exact ⟨_, _, rfl, DocsO.mono (DocsO.empty (own_empty _ _ _ _ b1.size)) (Nat.le_refl _) (Nat.le_refl _), b1.alloc b1.size _⟩
    · have hb := inB_true.1 h2
      obtain ⟨k, rfl⟩ : ∃ k : Nat, b = (k : Int) + 1 := ⟨(b - 1).toNat, by omega⟩
      have hlt : k < n := by omega
      have E0 := Lib.hid (show revAt ds ((k : Int) + 1) = true by simp [revAt, h1, hl.out, h2])
      have H2 := Lib.hid h2
      rw [hl.out] at h120
      clear h1 h2
      go_enter Try.func36, Try.ntmps36
      go_wp2_with fail
      refine (specAreDocs A n c ds _ hr (by omega) OK.out).mono ?_; rw [H1.out]; rintro e w1 ⟨rfl, b1⟩
      go_wp2_with fail
      refine (spec_in _ _ _ _).mono ?_; rw [H2.out]; rintro e w2 ⟨rfl, rfl⟩
      obtain ⟨g, off, rfl, ⟨num, dday, ents⟩, eA, en, ec, hx, c0, c1, c2, hre⟩ := (hr.below b1).docAt hlt
      have hsm := OK.out _ (List.mem_of_getElem? hx)
      have hel := hre.flatLen enCell_len (by omega)
      simp only at c0 c1 c2 hre hsm hel
      have E3 := Lib.hid (entsOf_at hx)
      simp only at E3
      have hen : en ≤ 1048600 := by omega
      have F1 := Lib.hid (show revDocs ds ((k : Int) + 1) day = postDocs ds day (negEn ents) by rw [revDocs, if_pos E0.out, E3.out])
      have F2 := Lib.hid (show revOk ds ((k : Int) + 1) day = areDocs (withDoc ds day (negEn ents)) by rw [revOk, E0.out, E3.out, Bool.true_and])
      have SM := Lib.hid hsm
      have HL := Lib.hid hel
      clear hx hsm hel
      have i1 : (0 : Int) ≤ k := by omega
      have i2 : (k : Int) < n := by omega
      obtain ⟨i0, hi, hz0, hz1, hz2⟩ := info_parts enInfo
      have c2' := c2
      clear c0 c1 c2
      go_wp2_with fail
      go_loopw [8, 9] (fun v i wr => ∃ j : Nat, j ≤ en ∧ i = .int .i64 j ∧ Below w1.heap.size w1 wr ∧ ∃ A' c', v = .slice A' j c' ∧ wr.ownsRow w1.heap.size 47 2 (.slice A' j c') j ((negEn (ents.take j)).flatMap enCell)) (fun _ i _ => en - (intOf i).toNat)
      case atStart => exact ⟨0, Nat.zero_le _, rfl, below_box w1 _, _, _, rfl, own_empty w1 _ _ _ (Nat.le_refl _)⟩
      case round =>
        obtain ⟨j, hj, rfl, hb, A', c', rfl, ho⟩ := hrel
        have c2 := cell_keep hb c2'
        by_cases hlt2 : j < en
        · obtain ⟨g2, off2, rfl, ⟨acc, amt⟩, hx, h0, h1⟩ := (hre.below hb).enAt hlt2
          have NT := Lib.hid (neg_take hx)
          simp only [negE] at NT
          clear hx
          have j1 : (0 : Int) ≤ j := by omega
          have j2 : (j : Int) < en := by omega
          go_wp2_with (at_builtin; refine wpList_app _ rfl _ _ _ rfl w1.heap.size 47 i0 _ 2 24 Try.underlying25 hi hz0 hz1 hz2 rfl (by omega) _ j ((negEn (ents.take j)).flatMap enCell) rfl ((ho.alloc _).alloc _) _ 1 1 (enCell ⟨acc, wrap64 (-amt)⟩) rfl (RS_new2 (by simp)) (enCell_one _) (by unfold maxLen; omega) (by omega) (by have := hb.size; simp; omega) ?_; intro A2 c2 w2 ho2 _ _ hb2)
          go_roundw
          case rel =>
            rw [← flat_one enCell, ← flat_append, ← NT.out] at ho2
            exact ⟨j + 1, by omega, by go_num, ((hb.alloc hb.size _).alloc (by have := hb.size; simp; omega) _).trans hb2, A2, c2, rfl, ho2⟩
          case measure => simp [intOf]; omega
        · obtain rfl : en = j := by omega
          have TK := Lib.hid (show negEn (ents.take en) = negEn ents by rw [List.take_of_length_le (by rw [HL.out]; exact Nat.le_refl _)])
          rw [TK.out] at ho
          have b3 := below_then b1 hb
          have i1 : (0 : Int) ≤ k := by omega
          have i2 : (k : Int) < n := by omega
          go_wp2_with fail
          refine (specPost _ n c ds day _ _ _ (negEn ents) _ (hr.below b3) hn (RS.of_own ho) hen OK.out (negEn_ok SM.out.2)).mono ?_; rintro e w4 ⟨A4, c4, rfl, D4, hb4⟩
          go_wp2_with fail
          go_ret2
          rw [F1.out, F2.out]
          exact ⟨_, _, rfl, D4.mono b3.size (Nat.le_refl _), below_then b3 hb4⟩
end Go.Proofs.Ytefhgilnfdmnlaa
