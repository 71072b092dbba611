/- Documents as rows that a call owns: reading, storing into one, appending one; marks. No condition. -/
import Derived.Test.YtlgodbjbllpipaaDocA
import Derived.Test.YtlgodbjbllpipaaOwns
namespace Go.Proofs.Ytlgodbjbllpipaa
open Go.ChangeShapes Go.WideShapes Go.ChangeAt Go.RowKit Go.Deep

theorem flat_set {α : Type} {f : α → List Value} {sz : Nat} (hf : ∀ y, (f y).length = sz) {x' : α} {j : Nat} {u : Value} (hj : j < sz) :
    ∀ {l : List α} {k : Nat} {x : α}, l[k]? = some x → f x' = (f x).set j u → (l.flatMap f).set (k * sz + j) u = (l.set k x').flatMap f
  | [], k, x, h, _ => by simp at h
  | y :: l, 0, x, h, he => by
    simp at h; subst h
    simp only [List.flatMap_cons, List.set_cons_zero, Nat.zero_mul, Nat.zero_add]
    rw [List.set_append_left _ _ (by rw [hf]; exact hj), he]
  | y :: l, k + 1, x, h, he => by
    simp only [List.flatMap_cons, List.set_cons_succ]
    rw [List.set_append_right _ _ (by rw [hf, Nat.succ_mul]; omega), hf, show (k + 1) * sz + j - sz = k * sz + j by rw [Nat.succ_mul]; omega]
    rw [flat_set hf hj (by simpa using h) he]
theorem zipWith_set {α β γ : Type} (f : α → β → γ) : ∀ (l : List α) (m : List β) (k : Nat) (a : α) (b : β), List.zipWith f (l.set k a) (m.set k b) = (List.zipWith f l m).set k (f a b)
  | [], _, _, _, _ => by simp
  | _ :: _, [], _, _, _ => by simp
  | _ :: _, _ :: _, 0, _, _ => by simp
  | _ :: l, _ :: m, k + 1, a, b => by simp [zipWith_set f l m k a b]
theorem set_self {α : Type} {l : List α} {k : Nat} {x : α} (h : l[k]? = some x) : l.set k x = l := by
  apply List.ext_getElem?; intro i
  rw [List.getElem?_set]
  split
  · rename_i e; subst e
    have := (List.getElem?_eq_some_iff.1 h).1
    rw [if_pos this, h]
  · rfl
theorem zipWith_at {α β γ : Type} {f : α → β → γ} {l : List α} {m : List β} {k : Nat} {a : α} {b : β} (ha : l[k]? = some a) (hb : m[k]? = some b) : (List.zipWith f l m)[k]? = some (f a b) := by
  rw [List.getElem?_zipWith, ha, hb]

def entRow (x : DV) (d : Doc) : Row := ⟨66, 2, dvRow x, x.en, d.ents.flatMap enCell⟩
def DocFits (vs : List DV) (ds : List Doc) : Prop := vs.length = ds.length ∧ ∀ (i : Nat) (x : DV) (d : Doc), vs[i]? = some x → ds[i]? = some d → x.num = d.num ∧ x.day = d.day
def docRows (v : Value) (n : Nat) (vs : List DV) (ds : List Doc) : List Row := ⟨64, 3, v, n, vs.flatMap dvCell⟩ :: List.zipWith entRow vs ds
def DocsO (w : World) (lo hi : Nat) (v : Value) (n : Nat) (ds : List Doc) (rest : List Row) : Prop := ∃ vs : List DV, DocFits vs ds ∧ Owns w lo hi (docRows v n vs ds ++ rest)
section
variable {w w' : World} {lo hi lo' hi' : Nat} {A : Option Addr} {v : Value} {n c : Nat} {ds : List Doc} {rest : List Row}
theorem DocsO.of_own (h : DocsOwn w lo hi v n ds) : DocsO w lo hi v n ds [] := by
  obtain ⟨vs, h1, h2, h3, h4, h5⟩ := h
  have hin : ∀ (i : Nat) (hi : i < (List.zipWith entRow vs ds).length), ∃ x d, vs[i]? = some x ∧ ds[i]? = some d ∧ (List.zipWith entRow vs ds)[i] = entRow x d := by
    intro i hi
    have hl : i < vs.length ∧ i < ds.length := by simp at hi; omega
    exact ⟨vs[i], ds[i], List.getElem?_eq_getElem hl.1, List.getElem?_eq_getElem hl.2, by simp⟩
  refine ⟨vs, ⟨h2, fun i x d hx hd => ⟨(h4 i x d hx hd).1, (h4 i x d hx hd).2.1⟩⟩, ?_, ?_⟩
  · intro r hr
    rw [List.append_nil] at hr
    rcases List.mem_cons.1 hr with rfl | hr
    · exact ⟨h1, h3⟩
    · obtain ⟨i, hi, rfl⟩ := List.getElem_of_mem hr
      obtain ⟨x, d, hx, hd, he⟩ := hin i hi
      rw [he]
      exact ⟨(h4 i x d hx hd).2.2.1, (h4 i x d hx hd).2.2.2⟩
  · rw [List.append_nil]
    refine List.pairwise_cons.2 ⟨fun r hr => ?_, List.pairwise_iff_getElem.2 fun i j hi hj hij => ?_⟩
    · obtain ⟨i, hi, rfl⟩ := List.getElem_of_mem hr
      obtain ⟨x, d, hx, hd, he⟩ := hin i hi
      rw [he]
      have ho := (h4 i x d hx hd).2.2.1
      show Apart v (dvRow x)
      unfold Apart
      cases hv : v.ownBlock with
      | none => exact .inl rfl
      | some q =>
        refine .inr fun hc => ?_
        have a1 := h1.2; have a2 := ho.2
        rcases a1 with ⟨rfl, _⟩ | ⟨g, cap, cur, rfl, _, hg, _⟩
        · simp [Value.ownBlock] at hv
        · rcases a2 with ⟨e, _⟩ | ⟨g', cap', cur', e, _, hg', _⟩
          · rw [e] at hc; simp [Value.ownBlock] at hc
          · rw [e] at hc
            simp [Value.ownBlock] at hv hc
            rw [hv] at hg; rw [← hc, hg] at hg'
            injection hg' with hg'
            injection hg' with _ he2 _
            exact absurd he2 (by decide)
    · obtain ⟨x, d, hx, hd, he⟩ := hin i hi
      obtain ⟨y, d', hy, hd', he'⟩ := hin j hj
      rw [he, he']
      exact h5 i j x y hij hx hy
theorem DocsO.owns (h : DocsO w lo hi v n ds rest) : Owns w lo hi rest := let ⟨_, _, h1⟩ := h; h1.right
theorem DocsO.read (h : DocsO w lo hi (.slice A n c) n ds rest) : DocsR w A n ds := by
  obtain ⟨vs, ⟨h1, h2⟩, h3⟩ := h
  refine ⟨vs, RS.of_own (h3.get (r := ⟨64, 3, .slice A n c, n, vs.flatMap dvCell⟩) (by simp [docRows])), h1, fun i x d hx hd => ⟨(h2 i x d hx hd).1, (h2 i x d hx hd).2, ?_⟩⟩
  have : entRow x d ∈ docRows (.slice A n c) n vs ds ++ rest := by
    have := List.mem_of_getElem? (zipWith_at (f := entRow) hx hd)
    simp [docRows, this]
  exact RS.of_own (h3.get this)
theorem DocsO.below (h : DocsO w lo hi v n ds rest) (hb : Below w.heap.size w w') : DocsO w' lo hi v n ds rest := let ⟨vs, h1, h2⟩ := h; ⟨vs, h1, h2.below hb⟩
theorem DocsO.within (h : DocsO w lo hi v n ds rest) (hw : Within lo' hi' w w') (hd : hi ≤ lo' ∨ hi' ≤ lo) : DocsO w' lo hi v n ds rest := let ⟨vs, h1, h2⟩ := h; ⟨vs, h1, h2.within hw hd⟩
theorem DocsO.mono (h : DocsO w lo hi v n ds rest) (hl : lo' ≤ lo) (hh : hi ≤ hi') : DocsO w lo' hi' v n ds rest := let ⟨vs, h1, h2⟩ := h; ⟨vs, h1, h2.mono hl hh⟩
theorem DocsO.top (h : DocsO w lo hi v n ds rest) : DocsO w lo w.heap.size v n ds rest := let ⟨vs, h1, h2⟩ := h; ⟨vs, h1, h2.top⟩
theorem DocsO.drop (h : DocsO w lo hi v n ds rest) : DocsO w lo hi v n ds [] := let ⟨vs, h1, h2⟩ := h; ⟨vs, h1, by rw [List.append_nil]; exact h2.left⟩
theorem DocsO.len (h : DocsO w lo hi (.slice A n c) n ds rest) : ds.length = n := h.read.len
theorem DocsO.join (h : Owns w lo hi rest) (hb : Below w.heap.size w w') {B : Nat} (h' : DocsO w' B hi' v n ds []) (hB : w.heap.size ≤ B) (hl : lo ≤ B) : DocsO w' lo w'.heap.size v n ds rest :=
  let ⟨vs, h1, h2⟩ := h'; ⟨vs, h1, h.join hb (by rw [List.append_nil] at h2; exact h2) hB hl⟩
/-- A document's number and day are stored anew, then its entries turn. -/
theorem DocsO.turn {k : Nat} (h : DocsO w lo hi (.slice A n c) n ds rest) (hk : k < n) :
    ∃ g, A = some ⟨g, 0, none⟩ ∧ lo ≤ g ∧ g < hi ∧ g < w.heap.size ∧ (∀ j, w.frozen? ⟨g, j, none⟩ = false) ∧ ∃ (d : Doc) (eA : Option Addr) (ec : Nat), ds[k]? = some d ∧
      w.cell? ⟨g, k * 3, none⟩ = some (.int .i64 d.num) ∧ w.cell? ⟨g, k * 3 + 1, none⟩ = some (.int .i64 d.day) ∧ w.cell? ⟨g, k * 3 + 2, none⟩ = some (.slice eA d.ents.length ec) ∧
      (∀ (a b : Int), ((w.setCell ⟨g, k * 3, none⟩ (.int .i64 a)).setCell ⟨g, k * 3 + 1, none⟩ (.int .i64 b)).ownsRow lo 66 2 (.slice eA d.ents.length ec) d.ents.length (d.ents.flatMap enCell) ∧
        ∀ (w2 : World) (es : List En), ((w.setCell ⟨g, k * 3, none⟩ (.int .i64 a)).setCell ⟨g, k * 3 + 1, none⟩ (.int .i64 b)).grownBy w2 (Value.slice eA d.ents.length ec).ownBlock → w2.ownsRow lo 66 2 (.slice eA d.ents.length ec) d.ents.length (es.flatMap enCell) →
          DocsO w2 lo hi (.slice A n c) n (ds.set k ⟨a, b, es⟩) rest ∧ Within lo hi w w2) := by
  have hl := h.len
  obtain ⟨vs, ⟨h1, h2⟩, h3⟩ := h
  have hd : ds[k]? = some ds[k] := List.getElem?_eq_getElem (by omega)
  have hx : vs[k]? = some vs[k] := List.getElem?_eq_getElem (by omega)
  have o0 : w.ownsRow lo 64 3 (.slice A n c) n (vs.flatMap dvCell) := h3.get (r := ⟨64, 3, .slice A n c, n, vs.flatMap dvCell⟩) (by simp [docRows])
  obtain ⟨g, rfl, hlo, hgs, hc, hf⟩ := own_addr o0 (by omega)
  have hhi : g < hi := (h3.1 ⟨64, 3, .slice (some ⟨g, 0, none⟩) n c, n, vs.flatMap dvCell⟩ (by simp [docRows])).2 g rfl
  obtain ⟨e1, e2⟩ := h2 k _ _ hx hd
  have hrk : (docRows (.slice (some ⟨g, 0, none⟩) n c) n vs ds ++ rest)[k + 1]? = some (entRow vs[k] ds[k]) := by
    rw [List.getElem?_append_left (by simp [docRows]; omega)]
    simp only [docRows, List.getElem?_cons_succ]
    exact zipWith_at hx hd
  have ok := h3.get (List.mem_of_getElem? hrk)
  have hen : ds[k].ents.length = vs[k].en := (RS.of_own (A := vs[k].eA) (c := vs[k].ec) ok : RS w 2 vs[k].eA vs[k].en (ds[k].ents.flatMap enCell)).flatLen enCell_len (by omega)
  have cc : ∀ j, j < 3 → w.cell? ⟨g, k * 3 + j, none⟩ = (dvCell vs[k])[j]? := fun j hj => by
    rw [hc (k * 3 + j) (by omega)]
    exact flat_get dvCell dvCell_len vs k _ hx j hj
  refine ⟨g, rfl, hlo, hhi, hgs, hf, ds[k], vs[k].eA, vs[k].ec, hd, ?_, ?_, ?_, fun a b => ?_⟩
  · rw [← e1]; exact cc 0 (by omega)
  · rw [← e2]; exact cc 1 (by omega)
  · rw [hen]; exact cc 2 (by omega)
  · rw [hen]
    have s1 := o0.stored (k * 3) (.int .i64 a)
    have f1 := flat_set dvCell_len (l := vs) (k := k) (x := vs[k]) (x' := { vs[k] with num := a }) (j := 0) (u := .int .i64 a) (by omega) hx rfl
    rw [Nat.add_zero] at f1
    have t1 := h3.turnIn (i := 0) (r := ⟨64, 3, .slice (some ⟨g, 0, none⟩) n c, n, vs.flatMap dvCell⟩) rfl s1.2 s1.1 rfl
    have s2 := s1.1.stored (k * 3 + 1) (.int .i64 b)
    have f2 := flat_set dvCell_len (l := vs.set k { vs[k] with num := a }) (k := k) (x := { vs[k] with num := a }) (x' := { vs[k] with num := a, day := b }) (j := 1) (u := .int .i64 b) (by omega) (by rw [List.getElem?_set]; simp; omega) rfl
    have t2 := t1.turnIn (i := 0) (r := ⟨64, 3, .slice (some ⟨g, 0, none⟩) n c, n, (vs.flatMap dvCell).set (k * 3) (.int .i64 a)⟩) rfl s2.2 s2.1 rfl
    simp only [docRows, List.cons_append, List.set_cons_zero, f1, f2, List.set_set] at t2
    have hrk2 : (⟨64, 3, .slice (some ⟨g, 0, none⟩) n c, n, (vs.set k { vs[k] with num := a, day := b }).flatMap dvCell⟩ :: (List.zipWith entRow vs ds ++ rest))[k + 1]? = some (entRow vs[k] ds[k]) := hrk
    refine ⟨t2.get (List.mem_of_getElem? hrk2), fun w2 es hg ho => ⟨⟨vs.set k { vs[k] with num := a, day := b }, ⟨by simp [h1], fun i x d hxi hdi => ?_⟩, ?_⟩, ?_⟩⟩
    · by_cases hik : i = k
      · subst hik
        rw [List.getElem?_set] at hxi hdi
        simp at hxi hdi
        rw [← hxi.2, ← hdi.2]
        exact ⟨rfl, rfl⟩
      · rw [List.getElem?_set_ne (Ne.symm hik)] at hxi hdi
        exact h2 i x d hxi hdi
    · have t3 := t2.turnIn hrk2 hg ho rfl
      simp only [List.set_cons_succ] at t3
      rw [List.set_append_left _ _ (by simp; omega)] at t3
      have z := zipWith_set entRow vs ds k { vs[k] with num := a, day := b } ⟨a, b, es⟩
      simp only [docRows, List.cons_append]
      rw [z]
      exact t3
    · have hgb : ∀ W : World, ∀ j u, Within lo hi W (W.setCell ⟨g, j, none⟩ u) := fun W j u => Within.of_grown (grown_set W _ _) fun k' hk' => by injection hk' with hk'; simp only at hk'; omega
      exact ((hgb _ _ _).trans (hgb _ _ _)).trans (t2.within_of hrk2 hg)
theorem DocsO.empty {v : Value} (ho : w.ownsRow lo 64 3 v 0 []) : DocsO w lo w.heap.size v 0 [] [] :=
  ⟨[], ⟨rfl, fun i x d h => by simp at h⟩, by simpa [docRows] using Owns.one ho⟩
theorem DocsO.outer (h : DocsO w lo hi v n ds rest) (hlo : lo ≤ w.heap.size) : ∃ xs, w.ownsRow lo 64 3 v n xs ∧ ∀ (w1 w2 : World) (a b : Int) (eA : Option Addr) (m ec : Nat) (es : List En) (v' : Value),
    Below w.heap.size w w1 → w1.ownsRow w.heap.size 66 2 (.slice eA m ec) m (es.flatMap enCell) → w1.grownBy w2 v.ownBlock → w2.ownsRow lo 64 3 v' (n + 1) (xs ++ [.int .i64 a, .int .i64 b, .slice eA m ec]) →
    (v'.ownBlock = v.ownBlock ∨ ∀ k, v'.ownBlock = some k → w1.heap.size ≤ k) → DocsO w2 lo w2.heap.size v' (n + 1) (ds ++ [⟨a, b, es⟩]) rest := by
  obtain ⟨vs, ⟨h1, h2⟩, h3⟩ := h
  have o0 : w.ownsRow lo 64 3 v n (vs.flatMap dvCell) := h3.get (r := ⟨64, 3, v, n, vs.flatMap dvCell⟩) (by simp [docRows])
  refine ⟨_, o0, fun w1 w2 a b eA m ec es v' hb ho hg ho2 hv => ⟨vs ++ [⟨a, b, eA, m, ec⟩], ⟨by simp [h1], fun i x d hx hd => ?_⟩, ?_⟩⟩
  · rcases Nat.lt_or_ge i vs.length with hi | hi
    · rw [List.getElem?_append_left hi] at hx
      rw [List.getElem?_append_left (by omega)] at hd
      exact h2 i x d hx hd
    · rw [List.getElem?_append_right hi] at hx
      rw [List.getElem?_append_right (by omega)] at hd
      have : i - vs.length = 0 := by
        have := (List.getElem?_eq_some_iff.1 hx).1
        simpa using this
      rw [this] at hx
      rw [← h1, this] at hd
      simp at hx hd
      rw [← hx, ← hd]
      exact ⟨rfl, rfl⟩
  · have t1 := h3.cons hb ho (Nat.le_refl _) hlo
    have t2 := t1.turn (i := 1) (r := ⟨64, 3, v, n, vs.flatMap dvCell⟩) rfl hg ho2 hv
    refine t2.perm ?_
    simp only [docRows, List.cons_append, List.set_cons_succ, List.set_cons_zero, List.zipWith_append h1, List.flatMap_append]
    refine (List.Perm.swap _ _ _).trans (List.Perm.cons _ ?_)
    rw [List.append_assoc]
    exact (List.perm_middle).symm
end

/-! ### marks -/
def mkEns (k0 : Int) (m : Nat) : List En := (List.range m).map fun (i : Nat) => ⟨mText (k0 + (i : Int) * 2).toNat, k0 + (i : Int) * 2 + 1⟩
theorem mkEns_len (k0 : Int) (m : Nat) : (mkEns k0 m).length = m := by simp [mkEns]
theorem mkEns_cells (k0 : Int) (m : Nat) : (mkEns k0 m).flatMap enCell = enMarks k0 (m * 2) := by
  induction m with
  | zero => rfl
  | succ m ih =>
    have e : mkEns k0 (m + 1) = mkEns k0 m ++ [⟨mText (k0 + (m : Int) * 2).toNat, k0 + (m : Int) * 2 + 1⟩] := by simp [mkEns, List.range_succ]
    rw [e, flat_append, ih, show (m + 1) * 2 = m * 2 + 1 + 1 by omega, enMarks_1, enMarks_0]
    simp [enCell]
def docW (d : Doc) : Int := 2 + d.ents.length * 2
def kDoc (k0 : Int) (ds : List Doc) (k : Nat) : Int := k0 + sumF docW ds k
theorem docW_nonneg (d : Doc) : 0 ≤ docW d := by unfold docW; omega
theorem kDoc_zero (k0 : Int) (ds : List Doc) : kDoc k0 ds 0 = k0 := by simp [kDoc, sumF_zero]
theorem kDoc_succ (k0 : Int) {ds : List Doc} {k : Nat} {d : Doc} (h : ds[k]? = some d) : kDoc k0 ds (k + 1) = kDoc k0 ds k + 2 + d.ents.length * 2 := by
  unfold kDoc; rw [sumF_succ _ h]; simp only [docW]; omega
theorem kDoc_mono (k0 : Int) {ds : List Doc} {k n : Nat} (h : k ≤ n) (hn : n ≤ ds.length) : k0 ≤ kDoc k0 ds k ∧ kDoc k0 ds k ≤ kDoc k0 ds n := by
  have := sumF_mono (f := docW) (l := ds) (fun x _ => docW_nonneg x) h hn
  have := sumF_nonneg (f := docW) (l := ds) (fun x _ => docW_nonneg x) k
  unfold kDoc; omega
def markDoc (k0 : Int) (ds : List Doc) (i : Nat) (d : Doc) : Doc := ⟨kDoc k0 ds i, kDoc k0 ds i + 1, mkEns (kDoc k0 ds i + 2) d.ents.length⟩
def markTo (k0 : Int) (ds : List Doc) (k : Nat) : List Doc := ds.mapIdx fun i d => if i < k then markDoc k0 ds i d else d
theorem markTo_len (k0 : Int) (ds : List Doc) (k : Nat) : (markTo k0 ds k).length = ds.length := by simp [markTo]
theorem markTo_zero (k0 : Int) (ds : List Doc) : markTo k0 ds 0 = ds := by
  apply List.ext_getElem?; intro i; simp [markTo, List.getElem?_mapIdx]
theorem markTo_at (k0 : Int) {ds : List Doc} {k i : Nat} {d : Doc} (h : ds[i]? = some d) : (markTo k0 ds k)[i]? = some (if i < k then markDoc k0 ds i d else d) := by
  simp [markTo, List.getElem?_mapIdx, h]
theorem markTo_succ (k0 : Int) {ds : List Doc} {k : Nat} {d : Doc} (h : ds[k]? = some d) : (markTo k0 ds k).set k (markDoc k0 ds k d) = markTo k0 ds (k + 1) := by
  apply List.ext_getElem?; intro i
  by_cases hik : i = k
  · subst hik
    have := (List.getElem?_eq_some_iff.1 h).1
    rw [List.getElem?_set, if_pos rfl, if_pos (by rw [markTo_len]; exact this), markTo_at k0 h, if_pos (by omega)]
  · rw [List.getElem?_set_ne (Ne.symm hik)]
    simp only [markTo, List.getElem?_mapIdx]
    have : i < k ↔ i < k + 1 := by omega
    simp only [this]

set_option maxHeartbeats 2000000 in
theorem markDocumentS_any (lo hi : Nat) (A : Option Addr) (n c : Nat) (ds : List Doc) (rest : List Row) (k0 : Int) (w : World) (ho : DocsO w lo hi (.slice A n c) n ds rest) (hn : n ≤ 1048600) (h0 : 1 ≤ k0) (h2 : k0 ≤ 50000000) (h1 : kDoc k0 ds n ≤ k0 + 2097200) :
    Calls Try.prog 62 #[.slice A n c, .int .i64 k0] w fun e w' => e = .returned (.int .i64 (kDoc k0 ds n)) ∧ DocsO w' lo hi (.slice A n c) n (markTo k0 ds n) rest ∧ Within lo hi w w' := by
  have hl := Lib.hid ho.len
  have MO := Lib.hid (fun k (hk : k ≤ n) => kDoc_mono k0 (ds := ds) hk (by rw [hl.out]; exact Nat.le_refl _))
  go_enter Try.func62, Try.ntmps62
  go_wp2
  go_loopw [1, 5] (fun kk i wr => ∃ k : Nat, k ≤ n ∧ i = .int .i64 k ∧ kk = .int .i64 (kDoc k0 ds k) ∧ Within lo hi w wr ∧ DocsO wr lo hi (.slice A n c) n (markTo k0 ds k) rest) (fun _ i _ => n - (intOf i).toNat)
  case atStart => exact ⟨0, Nat.zero_le _, rfl, by rw [kDoc_zero], Within.refl _ _ _, by rw [markTo_zero]; exact ho⟩
  case round =>
    obtain ⟨k, hk, rfl, rfl, hw, hd⟩ := hrel
    by_cases hlt : k < n
    · obtain ⟨g, rfl, hlo, hhi, hgs, hf, d, eA, ec, hx, c0, c1, c2, T⟩ := hd.turn hlt
      have hds : ds[k]? = some d := by
        have e := markTo_at k0 (ds := ds) (k := k) (i := k) (d := ds[k]'(by rw [hl.out]; exact hlt)) (List.getElem?_eq_getElem _)
        rw [hx, if_neg (Nat.lt_irrefl k)] at e
        injection e with e
        rw [e]; exact List.getElem?_eq_getElem _
      have KS := Lib.hid (kDoc_succ k0 hds)
      have MS := Lib.hid (markTo_succ k0 hds)
      have m1 := MO.out k (by omega)
      have m2 := MO.out (k + 1) (by omega)
      have m3 := (MO.out n (Nat.le_refl _)).1
      have m4 := (kDoc_mono k0 (ds := ds) (show k + 1 ≤ n by omega) (by rw [hl.out]; exact Nat.le_refl _)).2
      rw [KS.out] at m2 m4
      obtain ⟨o1, T2⟩ := T (kDoc k0 ds k) (kDoc k0 ds k + 1)
      obtain ⟨en, hen⟩ : ∃ en, d.ents.length = en := ⟨_, rfl⟩
      have MD := Lib.hid (show markDoc k0 ds k d = ⟨kDoc k0 ds k, kDoc k0 ds k + 1, mkEns (kDoc k0 ds k + 2) en⟩ by rw [← hen]; rfl)
      rw [hen] at c2 o1 T2 m2 m4
      have KS' := Lib.hid (show kDoc k0 ds (k + 1) = kDoc k0 ds k + 2 + en * 2 by rw [KS.out, hen])
      clear hx hds hen hd T
      have i1 : (0 : Int) ≤ k := by omega
      have i2 : (k : Int) < n := by omega
      have e0 : k0 ≤ kDoc k0 ds k := m1.1
      go_wp2_with fail
      refine (markEntryS_any lo _ _ _ _ _ _ o1 (by omega) (by omega) (by omega)).mono ?_; rintro e w2 ⟨rfl, o2, hg2⟩
      obtain ⟨D2, W2⟩ := T2 w2 (mkEns (kDoc k0 ds k + 2) en) hg2 (by have e : kDoc k0 ds k + 1 + 1 = kDoc k0 ds k + 2 := (by omega); rw [mkEns_cells, ← e]; exact o2)
      rw [← MD.out, MS.out] at D2
      clear o2 hg2
      go_wp2_with fail
      go_roundw
      case rel => exact ⟨k + 1, by omega, by go_num, by rw [KS'.out]; go_num, hw.trans W2, D2⟩
      case measure => simp [intOf]; omega
    · obtain rfl : n = k := by omega
      go_wp2
      go_ret
      exact ⟨rfl, hd, hw⟩
set_option maxHeartbeats 2000000 in
theorem heldDocumentS_any (A : Option Addr) (n c : Nat) (ds : List Doc) (k0 : Int) (w : World) (hr : DocsR w A n (markTo k0 ds n)) (hn : n ≤ 1048600) (h0 : 1 ≤ k0) (h2 : k0 ≤ 50000000) (h1 : kDoc k0 ds n ≤ k0 + 2097200) :
    Calls Try.prog 64 #[.slice A n c, .int .i64 k0] w fun e w' => e = .returned (.int .i64 (kDoc k0 ds n)) ∧ Below w.heap.size w w' := by
  have hl := Lib.hid (show ds.length = n by have := hr.len; rwa [markTo_len] at this)
  have MO := Lib.hid (fun k (hk : k ≤ n) => kDoc_mono k0 (ds := ds) hk (by rw [hl.out]; exact Nat.le_refl _))
  go_enter Try.func64, Try.ntmps64
  go_wp2
  go_loopw [1, 5] (fun kk i wr => ∃ k : Nat, k ≤ n ∧ i = .int .i64 k ∧ kk = .int .i64 (kDoc k0 ds k) ∧ Below w.heap.size w wr) (fun _ i _ => n - (intOf i).toNat)
  case atStart => exact ⟨0, Nat.zero_le _, rfl, by rw [kDoc_zero], Below.refl _ _⟩
  case round =>
    obtain ⟨k, hk, rfl, rfl, hb⟩ := hrel
    by_cases hlt : k < n
    · obtain ⟨g, off, rfl, x, eA, en, ec, hx, c0, c1, c2, hre⟩ := (hr.below hb).docAt hlt
      have hds : ds[k]? = some (ds[k]'(by rw [hl.out]; exact hlt)) := List.getElem?_eq_getElem _
      rw [markTo_at k0 hds, if_pos hlt] at hx
      injection hx with hx
      subst hx
      obtain ⟨m, hm⟩ : ∃ m, (ds[k]'(by rw [hl.out]; exact hlt)).ents.length = m := ⟨_, rfl⟩
      have KS := Lib.hid (kDoc_succ k0 hds)
      have hen := hre.flatLen enCell_len (by omega)
      simp only [markDoc, hm, mkEns_len] at c0 c1 hre hen KS
      subst hen
      have m1 := MO.out k (by omega)
      have m4 := (kDoc_mono k0 (ds := ds) (show k + 1 ≤ n by omega) (by rw [hl.out]; exact Nat.le_refl _)).2
      rw [KS.out] at m4
      have i1 : (0 : Int) ≤ k := by omega
      have i2 : (k : Int) < n := by omega
      have e0 : k0 ≤ kDoc k0 ds k := m1.1
      rw [mkEns_cells] at hre
      clear hds hm
      go_wp2_with fail
      refine (heldEntryS_any _ _ _ _ _ (by have e : kDoc k0 ds k + 1 + 1 = kDoc k0 ds k + 2 := (by omega); rw [e]; exact hre) (by omega) (by omega) (by omega)).mono ?_; rintro e w2 ⟨rfl, hb2⟩
      have b2 := below_app hb hb2 hb.size
      clear hb2
      go_wp2_with fail
      go_roundw
      case rel => exact ⟨k + 1, by omega, by go_num, by rw [KS.out]; go_num, b2⟩
      case measure => simp [intOf]; omega
    · obtain rfl : n = k := by omega
      go_wp2
      go_ret
      exact ⟨rfl, hb⟩
end Go.Proofs.Ytlgodbjbllpipaa
