/- The walks of PostEntries. No condition. -/
import Derived.Test.YtlgodbjbllpipaaCopyDocs
import Derived.Test.YtlgodbjbllpipaaDocB
namespace Go.Proofs.Ytlgodbjbllpipaa
open Go.ChangeShapes Go.WideShapes Go.ChangeAt Go.RowKit

def withDoc (ds : List Doc) (day : Int) (es : List En) : List Doc := ds ++ [⟨(ds.length : Int) + 1, day, es⟩]
def postDocs (ds : List Doc) (day : Int) (es : List En) : List Doc := if areDocs (withDoc ds day es) then withDoc ds day es else []
theorem postDocs_yes {ds : List Doc} {day : Int} {es : List En} (h : areDocs (withDoc ds day es) = true) : postDocs ds day es = withDoc ds day es := by simp [postDocs, h]
theorem postDocs_no {ds : List Doc} {day : Int} {es : List En} (h : areDocs (withDoc ds day es) = false) : postDocs ds day es = [] := by simp [postDocs, h]
theorem withDoc_len (ds : List Doc) (day : Int) (es : List En) : (withDoc ds day es).length = ds.length + 1 := by simp [withDoc]
theorem docsSmall_with {ds : List Doc} {day : Int} {es : List En} (h : docsSmall ds) (h1 : es.length ≤ 1048600) (h2 : ∀ x ∈ es, x.acc.size ≤ 9223372036854775807) : docsSmall (withDoc ds day es) := by
  intro d hd
  rcases List.mem_append.1 hd with hd | hd
  · exact h d hd
  · obtain rfl := List.mem_singleton.1 hd
    exact ⟨h1, h2⟩
/-! ### sizes -/
theorem kDoc_bd (k0 : Int) {ds : List Doc} {n : Nat} (hl : ds.length = n) (h : (n : Int) + sumF docSz ds n ≤ 1048577) : kDoc k0 ds n ≤ k0 + 2097200 ∧ k0 ≤ kDoc k0 ds n := by
  have key : ∀ k, k ≤ n → sumF docW ds k ≤ 2 * k + 2 * sumF docSz ds k := by
    intro k
    induction k with
    | zero => intro _; simp [sumF_zero]
    | succ k ih =>
      intro hk
      have hx : ds[k]? = some ds[k] := List.getElem?_eq_getElem (by omega)
      rw [sumF_succ _ hx, sumF_succ _ hx]
      have := ih (by omega)
      have h2 := sumF_nonneg (f := enSz) (l := ds[k].ents) (fun y _ => enSz_nonneg y) ds[k].ents.length
      have h3 : docSz ds[k] = ds[k].ents.length + sumF enSz ds[k].ents ds[k].ents.length := rfl
      have h4 : docW ds[k] = 2 + ds[k].ents.length * 2 := rfl
      omega
  have h1 := key n (Nat.le_refl _)
  have h2 := sumF_nonneg (f := docW) (l := ds) (fun x _ => docW_nonneg x) n
  unfold kDoc
  omega
theorem docs_small2 {l : List Doc} {n : Nat} (hl : l.length = n) (hs : (n : Int) + sumF docSz l n ≤ 1048577) : ∀ d ∈ l, d.ents.length ≤ 1048600 := by
  intro d hd
  have h1 := sumF_mem (f := docSz) (l := l) (fun x _ => docSz_nonneg x) hd
  rw [hl] at h1
  have h2 := sumF_nonneg (f := enSz) (l := d.ents) (fun y _ => enSz_nonneg y) d.ents.length
  have h3 : docSz d = d.ents.length + sumF enSz d.ents d.ents.length := rfl
  omega
theorem sumF_with (ds : List Doc) (day : Int) (es : List En) : sumF docSz (withDoc ds day es) (ds.length + 1) = sumF docSz ds ds.length + (es.length + sumF enSz es es.length) := by
  have h : (withDoc ds day es)[ds.length]? = some ⟨(ds.length : Int) + 1, day, es⟩ := by simp [withDoc]
  rw [sumF_succ _ h]
  have : sumF docSz (withDoc ds day es) ds.length = sumF docSz ds ds.length := by simp [sumF, withDoc]
  rw [this]; rfl
theorem post_size (ds : List Doc) (day : Int) (es : List En) : ((postDocs ds day es).length : Int) + sumF docSz (postDocs ds day es) (postDocs ds day es).length ≤ ds.length + 1 + sumF docSz ds ds.length + (es.length + sumF enSz es es.length) := by
  unfold postDocs
  split
  · rw [withDoc_len, sumF_with]; simp only [Int.natCast_add]; omega
  · have h1 := sumF_nonneg (f := docSz) (l := ds) (fun x _ => docSz_nonneg x) ds.length
    have h2 := sumF_nonneg (f := enSz) (l := es) (fun y _ => enSz_nonneg y) es.length
    simp [sumF]
    unfold sumF at h1 h2
    simp only [List.take_length] at h1 h2
    omega
set_option maxRecDepth 100000 in
set_option maxHeartbeats 4000000 in
theorem implPost (A : Option Addr) (n c : Nat) (ds : List Doc) (day : Int) (B : Option Addr) (m d : Nat) (es : List En) (w : World) (hr : DocsR w A n ds) (hn : n ≤ 1048576) (hs : RS w 2 B m (es.flatMap enCell)) (hm : m ≤ 1048600) (hok : docsSmall ds) (hes : ∀ x ∈ es, x.acc.size ≤ 9223372036854775807) :
    Calls Try.prog 115 #[.slice A n c, .int .i64 day, .slice B m d] w fun e w' => ∃ A' c', e = .returned (.tuple #[.slice A' (postDocs ds day es).length c', .bool (areDocs (withDoc ds day es))]) ∧
      DocsO w' w.heap.size w'.heap.size (.slice A' (postDocs ds day es).length c') (postDocs ds day es).length (postDocs ds day es) [] ∧ Below w.heap.size w w' := by
  have hl := Lib.hid hr.len
  have hle := hs.flatLen enCell_len (by omega)
  have OK := Lib.hid (docsSmall_with (day := day) hok (by omega) hes)
  have CL := Lib.hid (fun d hd => (hok d hd).1)
  clear hok hes hle
  obtain ⟨i0, hi, hz0, hz1, hz2⟩ := info_parts enInfo
  obtain ⟨j0, hi', hz0', hz1', hz2'⟩ := info_parts docInfo
  cases h : areDocs (withDoc ds day es)
  all_goals
    have H := Lib.hid h
    clear h
    go_enter Try.func115, Try.ntmps115
    go_wp2_with fail
    refine (implCopyDocs A n c ds _ hr (by omega) CL.out).mono ?_; rintro e w1 ⟨A1, c1, rfl, D1, hb1⟩
    obtain ⟨xs, o0, T⟩ := D1.outer hb1.size
    have TT := Lib.hid T; clear T
    have hs1 := hs.below hb1
    have E0 := own_empty w1 w1.heap.size 66 2 (Nat.le_refl _)
    have zz := hb1.size
    go_wp2_with (first
      | (at_builtin; refine wpList_app _ rfl _ _ _ rfl w1.heap.size 66 i0 _ 2 24 Try.underlying62 hi hz0 hz1 hz2 rfl (by omega) _ 0 [] rfl E0 B m d (es.flatMap enCell) rfl (hs1.alloc _) (flat_one_cell enCell_one _) (by unfold maxLen; omega) (by omega) (by simp) ?_; intro A2 c2 w2 o2 g2 at2 b2
         rw [Nat.zero_add, List.nil_append] at o2
         rw [Nat.zero_add] at at2
         have oo := (own_grown (o0.alloc _) g2 (own_ne o0 (Nat.le_refl _)))
         have z2 := b2.size)
      | (at_builtin; refine wpList_app _ rfl _ _ _ rfl w.heap.size 64 j0 _ 3 40 Try.underlying29 hi' hz0' hz1' hz2' rfl (by omega) _ n xs rfl (oo.alloc _) _ 1 1 [.int .i64 ((n : Int) + 1), .int .i64 day, .slice A2 m c2] rfl (RS_new (by simp)) (by simp [Value.oneCell']) (by unfold maxLen; omega) (by omega) (by simp at z2 ⊢; omega) ?_; intro A3 c3 w3 o3 g3 at3 b3
         have hb2 : Below w1.heap.size w1 w2 := (below_box w1 _).trans b2
         have dO := TT.out (w2.alloc (Obj.cells #[.int .i64 ((n : Int) + 1), .int .i64 day, .slice A2 m c2] 64)) w3 ((n : Int) + 1) day A2 m c2 es (.slice A3 (n + 1) c3) (hb2.alloc hb2.size _) (o2.alloc _) g3 o3 (by
           rcases at3 with h | h
           · exact .inl h
           · exact .inr fun q hq => by rw [h] at hq; injection hq with hq; omega)
         have B3 := (below_app hb1 (hb2.alloc hb2.size (Obj.cells #[.int .i64 ((n : Int) + 1), .int .i64 day, .slice A2 m c2] 64)) hb1.size).trans b3
         have e : ds ++ [(⟨(n : Int) + 1, day, es⟩ : Doc)] = withDoc ds day es := by rw [withDoc, hl.out]
         rw [e] at dO
         clear o2 at2 g2 z2 b2 oo o3 g3 at3 b3 hb2 e)
      | (go_at_call 48; refine (implAreDocs A3 (n + 1) c3 _ _ dO.read (by omega) OK.out).mono ?_; rw [H.out]; rintro e w4 ⟨rfl, hb4⟩
         have dO := dO.below hb4
         have B4 := below_app B3 hb4 B3.size
         clear B3 hb4))
    all_goals go_ret2
  · rw [postDocs_no H.out]
    exact ⟨_, _, rfl, DocsO.mono (DocsO.empty (World.ownsRow_nil _ _ _ _)) (Nat.le_refl _) (Nat.le_refl _), B4⟩
  · rw [postDocs_yes H.out, withDoc_len, hl.out]
    exact ⟨_, _, rfl, dO.top, B4⟩
set_option maxRecDepth 100000 in
set_option maxHeartbeats 4000000 in
theorem specPost (A : Option Addr) (n c : Nat) (ds : List Doc) (day : Int) (B : Option Addr) (m d : Nat) (es : List En) (w : World) (hr : DocsR w A n ds) (hn : n ≤ 1048576) (hs : RS w 2 B m (es.flatMap enCell)) (hm : m ≤ 1048600) (hok : docsSmall ds) (hes : ∀ x ∈ es, x.acc.size ≤ 9223372036854775807) :
    Calls Try.prog 112 #[.slice A n c, .int .i64 day, .slice B m d] w fun e w' => ∃ A' c', e = .returned (.tuple #[.slice A' (postDocs ds day es).length c', .bool (areDocs (withDoc ds day es))]) ∧
      DocsO w' w.heap.size w'.heap.size (.slice A' (postDocs ds day es).length c') (postDocs ds day es).length (postDocs ds day es) [] ∧ Below w.heap.size w w' := by
  have hl := Lib.hid hr.len
  have hle := hs.flatLen enCell_len (by omega)
  have OK := Lib.hid (docsSmall_with (day := day) hok (by omega) hes)
  have CL := Lib.hid (fun d hd => (hok d hd).1)
  clear hok hes hle
  obtain ⟨i0, hi, hz0, hz1, hz2⟩ := info_parts enInfo
  obtain ⟨j0, hi', hz0', hz1', hz2'⟩ := info_parts docInfo
  cases h : areDocs (withDoc ds day es)
  all_goals
    have H := Lib.hid h
    clear h
    go_enter Try.func112, Try.ntmps112
    go_wp2_with fail
    refine (specCopyDocs A n c ds _ hr (by omega) CL.out).mono ?_; rintro e w1 ⟨A1, c1, rfl, D1, hb1⟩
    obtain ⟨xs, o0, T⟩ := D1.outer hb1.size
    have TT := Lib.hid T; clear T
    have hs1 := hs.below hb1
    have E0 := own_empty w1 w1.heap.size 66 2 (Nat.le_refl _)
    have zz := hb1.size
    go_wp2_with (first
      | (at_builtin; refine wpList_app _ rfl _ _ _ rfl w1.heap.size 66 i0 _ 2 24 Try.underlying62 hi hz0 hz1 hz2 rfl (by omega) _ 0 [] rfl E0 B m d (es.flatMap enCell) rfl (hs1.alloc _) (flat_one_cell enCell_one _) (by unfold maxLen; omega) (by omega) (by simp) ?_; intro A2 c2 w2 o2 g2 at2 b2
         rw [Nat.zero_add, List.nil_append] at o2
         rw [Nat.zero_add] at at2
         have oo := (own_grown (o0.alloc _) g2 (own_ne o0 (Nat.le_refl _)))
         have z2 := b2.size)
      | (at_builtin; refine wpList_app _ rfl _ _ _ rfl w.heap.size 64 j0 _ 3 40 Try.underlying29 hi' hz0' hz1' hz2' rfl (by omega) _ n xs rfl (oo.alloc _) _ 1 1 [.int .i64 ((n : Int) + 1), .int .i64 day, .slice A2 m c2] rfl (RS_new (by simp)) (by simp [Value.oneCell']) (by unfold maxLen; omega) (by omega) (by simp at z2 ⊢; omega) ?_; intro A3 c3 w3 o3 g3 at3 b3
         have hb2 : Below w1.heap.size w1 w2 := (below_box w1 _).trans b2
         have dO := TT.out (w2.alloc (Obj.cells #[.int .i64 ((n : Int) + 1), .int .i64 day, .slice A2 m c2] 64)) w3 ((n : Int) + 1) day A2 m c2 es (.slice A3 (n + 1) c3) (hb2.alloc hb2.size _) (o2.alloc _) g3 o3 (by
           rcases at3 with h | h
           · exact .inl h
           · exact .inr fun q hq => by rw [h] at hq; injection hq with hq; omega)
         have B3 := (below_app hb1 (hb2.alloc hb2.size (Obj.cells #[.int .i64 ((n : Int) + 1), .int .i64 day, .slice A2 m c2] 64)) hb1.size).trans b3
         have e : ds ++ [(⟨(n : Int) + 1, day, es⟩ : Doc)] = withDoc ds day es := by rw [withDoc, hl.out]
         rw [e] at dO
         clear o2 at2 g2 z2 b2 oo o3 g3 at3 b3 hb2 e)
      | (go_at_call 44; refine (specAreDocs A3 (n + 1) c3 _ _ dO.read (by omega) OK.out).mono ?_; rw [H.out]; rintro e w4 ⟨rfl, hb4⟩
         have dO := dO.below hb4
         have B4 := below_app B3 hb4 B3.size
         clear B3 hb4))
    all_goals go_ret2
  · rw [postDocs_no H.out]
    exact ⟨_, _, rfl, DocsO.mono (DocsO.empty (own_empty _ _ _ _ B4.size)) (Nat.le_refl _) (Nat.le_refl _), B4.alloc B4.size _⟩
  · rw [postDocs_yes H.out, withDoc_len, hl.out]
    exact ⟨_, _, rfl, dO.top, B4⟩
end Go.Proofs.Ytlgodbjbllpipaa
