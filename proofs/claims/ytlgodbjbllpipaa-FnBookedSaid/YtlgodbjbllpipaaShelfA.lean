/- Shelves and books: rows that a call owns; the walks of the laws' helpers: size, equality, copy. -/
import Derived.Test.YtlgodbjbllpipaaShelf
import Derived.Test.YtlgodbjbllpipaaDocO
namespace Go.Proofs.Ytlgodbjbllpipaa
open Go.ChangeShapes Go.WideShapes Go.ChangeAt Go.RowKit Go.Deep

/-! ### shelves and books as rows that a call owns -/
def idRow (x : SV) (s : Shf) : Row := ⟨3, 1, svI x, x.iN, intCells s.ids⟩
def layRow (x : SV) (s : Shf) : Row := ⟨61, 3, svL x, x.lN, layCells s.lays⟩
def ShFits (vs : List SV) (ss : List Shf) : Prop := vs.length = ss.length ∧ ∀ (i : Nat) (x : SV) (s : Shf), vs[i]? = some x → ss[i]? = some s → x.item = s.item
def shRows (v : Value) (n : Nat) (vs : List SV) (ss : List Shf) : List Row := ⟨59, 3, v, n, vs.flatMap svCell⟩ :: (List.zipWith idRow vs ss ++ List.zipWith layRow vs ss)
def ShelvesO (w : World) (lo hi : Nat) (v : Value) (n : Nat) (ss : List Shf) (rest : List Row) : Prop := ∃ vs : List SV, ShFits vs ss ∧ Owns w lo hi (shRows v n vs ss ++ rest)
def BooksO (w : World) (lo hi : Nat) (sv : Value) (sn : Nat) (ss : List Shf) (dv : Value) (dn : Nat) (ds : List Doc) : Prop :=
  ∃ us : List DV, DocFits us ds ∧ ShelvesO w lo hi sv sn ss (docRows dv dn us ds)
section
variable {w w' : World} {lo hi lo' hi' : Nat} {A B : Option Addr} {v v' : Value} {n c m k : Nat} {ss : List Shf} {ds : List Doc} {rest : List Row}
theorem ShelvesO.owns (h : ShelvesO w lo hi v n ss rest) : Owns w lo hi rest := let ⟨_, _, h1⟩ := h; h1.right
theorem ShelvesO.read (h : ShelvesO w lo hi (.slice A n c) n ss rest) : ShelvesR w A n ss := by
  obtain ⟨vs, ⟨h1, h2⟩, h3⟩ := h
  refine ⟨vs, RS.of_own (h3.get (r := ⟨59, 3, .slice A n c, n, vs.flatMap svCell⟩) (by simp [shRows])), h1, fun i x d hx hd => ⟨h2 i x d hx hd, ?_, ?_⟩⟩
  · have : idRow x d ∈ shRows (.slice A n c) n vs ss ++ rest := by
      have := List.mem_of_getElem? (zipWith_at (f := idRow) hx hd)
      simp [shRows, this]
    exact RS.of_own (h3.get this)
  · have : layRow x d ∈ shRows (.slice A n c) n vs ss ++ rest := by
      have := List.mem_of_getElem? (zipWith_at (f := layRow) hx hd)
      simp [shRows, this]
    exact RS.of_own (h3.get this)
theorem ShelvesO.below (h : ShelvesO w lo hi v n ss rest) (hb : Below w.heap.size w w') : ShelvesO w' lo hi v n ss rest := let ⟨vs, h1, h2⟩ := h; ⟨vs, h1, h2.below hb⟩
theorem ShelvesO.within (h : ShelvesO w lo hi v n ss rest) (hw : Within lo' hi' w w') (hd : hi ≤ lo' ∨ hi' ≤ lo) : ShelvesO w' lo hi v n ss rest := let ⟨vs, h1, h2⟩ := h; ⟨vs, h1, h2.within hw hd⟩
theorem ShelvesO.mono (h : ShelvesO w lo hi v n ss rest) (hl : lo' ≤ lo) (hh : hi ≤ hi') : ShelvesO w lo' hi' v n ss rest := let ⟨vs, h1, h2⟩ := h; ⟨vs, h1, h2.mono hl hh⟩
theorem ShelvesO.top (h : ShelvesO w lo hi v n ss rest) : ShelvesO w lo w.heap.size v n ss rest := let ⟨vs, h1, h2⟩ := h; ⟨vs, h1, h2.top⟩
theorem ShelvesO.drop (h : ShelvesO w lo hi v n ss rest) : ShelvesO w lo hi v n ss [] := let ⟨vs, h1, h2⟩ := h; ⟨vs, h1, by rw [List.append_nil]; exact h2.left⟩
theorem ShelvesO.len (h : ShelvesO w lo hi (.slice A n c) n ss rest) : ss.length = n := h.read.len
theorem BooksO.shelves (h : BooksO w lo hi (.slice A n c) n ss v' m ds) : ShelvesR w A n ss := let ⟨_, _, h1⟩ := h; h1.read
theorem BooksO.docs (h : BooksO w lo hi v n ss (.slice B m k) m ds) : DocsR w B m ds :=
  let ⟨us, h1, h2⟩ := h
  (show DocsO w lo hi (.slice B m k) m ds [] from ⟨us, h1, by rw [List.append_nil]; exact h2.owns⟩).read
theorem BooksO.below (h : BooksO w lo hi v n ss v' m ds) (hb : Below w.heap.size w w') : BooksO w' lo hi v n ss v' m ds := let ⟨us, h1, h2⟩ := h; ⟨us, h1, h2.below hb⟩
theorem BooksO.within (h : BooksO w lo hi v n ss v' m ds) (hw : Within lo' hi' w w') (hd : hi ≤ lo' ∨ hi' ≤ lo) : BooksO w' lo hi v n ss v' m ds := let ⟨us, h1, h2⟩ := h; ⟨us, h1, h2.within hw hd⟩
theorem BooksO.mono (h : BooksO w lo hi v n ss v' m ds) (hl : lo' ≤ lo) (hh : hi ≤ hi') : BooksO w lo' hi' v n ss v' m ds := let ⟨us, h1, h2⟩ := h; ⟨us, h1, h2.mono hl hh⟩
theorem BooksO.top (h : BooksO w lo hi v n ss v' m ds) : BooksO w lo w.heap.size v n ss v' m ds := let ⟨us, h1, h2⟩ := h; ⟨us, h1, h2.top⟩
/-- Books from their parts, made one after the other. -/
theorem BooksO.of (h : ShelvesO w lo hi v n ss []) (hb : Below w.heap.size w w') {B : Nat} (h' : DocsO w' B hi' v' m ds []) (hB : w.heap.size ≤ B) (hl : lo ≤ B) : BooksO w' lo w'.heap.size v n ss v' m ds := by
  obtain ⟨vs, h1, h2⟩ := h
  obtain ⟨us, k1, k2⟩ := h'
  rw [List.append_nil] at h2 k2
  exact ⟨us, k1, vs, h1, (h2.join hb k2 hB hl).perm List.perm_append_comm⟩
end
theorem zip_snoc {α β γ : Type} (f : α → β → γ) : ∀ {l : List α} {m : List β} {x : α} {y : β}, m[l.length]? = some y → List.zipWith f (l ++ [x]) m = List.zipWith f l m ++ [f x y]
  | [], [], _, _, h => by simp at h
  | [], z :: m, _, _, h => by simp at h; simp [h]
  | _ :: _, [], _, _, h => by simp at h
  | _ :: l, _ :: m, _, _, h => by simp [zip_snoc f (l := l) (m := m) (by simpa using h)]
theorem perm_two {α : Type} (a b o : α) (X Y : List α) : ([a, b] ++ o :: (X ++ Y)).Perm (o :: ((X ++ [a]) ++ (Y ++ [b]))) := by
  refine List.perm_middle.trans (List.Perm.cons o ?_)
  have e : (X ++ [a]) ++ (Y ++ [b]) = X ++ a :: (Y ++ [b]) := by simp
  rw [e]
  refine List.Perm.trans ?_ List.perm_middle.symm
  refine List.Perm.cons a ?_
  rw [← List.append_assoc]
  exact (List.perm_append_comm (l₁ := X ++ Y) (l₂ := [b])).symm

/-! ### sizes -/
def shSz (s : Shf) : Int := s.item.size + (s.ids.length + s.lays.length : Int)
theorem shSz_nonneg (s : Shf) : 0 ≤ shSz s := by unfold shSz; omega
theorem shelves_small {l : List Shf} {n : Nat} (hl : l.length = n) (hs : sumF shSz l n ≤ 1048576) : ∀ s ∈ l, s.item.size ≤ 1048576 ∧ s.ids.length ≤ 1048576 ∧ s.lays.length ≤ 1048576 := by
  intro d hd
  have h1 := sumF_mem (f := shSz) (l := l) (fun x _ => shSz_nonneg x) hd
  rw [hl] at h1
  have h2 : shSz d = d.item.size + (d.ids.length + d.lays.length : Int) := rfl
  omega
theorem szIntS_any (A : Option Addr) (n c : Nat) (left : Int) (w : World) (h0 : 0 ≤ left) (h1 : left ≤ 1048576) (hn : n ≤ 9223372036854775807) :
    Calls Try.prog 102 #[.slice A n c, .int .i64 left] w fun e w' => e = .returned (.int .i64 (if left - n < 0 then -1 else left - n)) ∧ w = w' := by
  go_enter Try.func102, Try.ntmps102
  go_wp2
  all_goals go_ret
  all_goals exact ⟨rfl, rfl⟩
theorem szShelf_any (item : ByteArray) (iA : Option Addr) (iN iC : Nat) (lA : Option Addr) (lN lC : Nat) (left : Int) (w : World) (hs : item.size ≤ 9223372036854775807) (hi : iN ≤ 9223372036854775807) (hl : lN ≤ 9223372036854775807) (h0 : 0 ≤ left) (h1 : left ≤ 1048576) :
    Calls Try.prog 68 #[.agg #[.string item, .slice iA iN iC, .slice lA lN lC], .int .i64 left] w fun e w' => e = .returned (.int .i64 (szRes left (item.size + (iN + lN : Int)))) ∧ Below w.heap.size w w' := by
  by_cases z1 : left - item.size < 0
  · have R := Lib.hid (szRes_no (show left < item.size + (iN + lN : Int) by omega))
    go_enter Try.func68, Try.ntmps68
    go_wp2_with fail
    go_ret
    exact ⟨ret_int (by rw [R.out]), below_box w _⟩
  · by_cases z2 : left - item.size - iN < 0
    · have R := Lib.hid (szRes_no (show left < item.size + (iN + lN : Int) by omega))
      go_enter Try.func68, Try.ntmps68
      go_wp2_with fail
      refine (szIntS_any _ _ _ _ _ (by omega) (by omega) hi).mono ?_; rw [if_pos (by omega)]; rintro e w1 ⟨rfl, rfl⟩
      go_wp2_with fail
      go_ret
      exact ⟨ret_int (by rw [R.out]), below_box w _⟩
    · by_cases z3 : left - item.size - iN - lN < 0
      · have R := Lib.hid (szRes_no (show left < item.size + (iN + lN : Int) by omega))
        go_enter Try.func68, Try.ntmps68
        go_wp2_with fail
        refine (szIntS_any _ _ _ _ _ (by omega) (by omega) hi).mono ?_; rw [if_neg (by omega)]; rintro e w1 ⟨rfl, rfl⟩
        go_wp2_with fail
        refine (szLayerS_any _ _ _ _ _ (by omega) (by omega) hl).mono ?_; rw [if_pos (by omega)]; rintro e w1 ⟨rfl, rfl⟩
        go_wp2_with fail
        go_ret
        exact ⟨ret_int (by rw [R.out]), below_box w _⟩
      · have R := Lib.hid (show szRes left (item.size + (iN + lN : Int)) = left - item.size - iN - lN by rw [szRes_yes (by omega)]; omega)
        go_enter Try.func68, Try.ntmps68
        go_wp2_with fail
        refine (szIntS_any _ _ _ _ _ (by omega) (by omega) hi).mono ?_; rw [if_neg (by omega)]; rintro e w1 ⟨rfl, rfl⟩
        go_wp2_with fail
        refine (szLayerS_any _ _ _ _ _ (by omega) (by omega) hl).mono ?_; rw [if_neg (by omega)]; rintro e w1 ⟨rfl, rfl⟩
        go_wp2_with fail
        go_ret
        exact ⟨ret_int (by rw [R.out]), below_box w _⟩
set_option maxHeartbeats 1000000 in
theorem szShelfS_any (A : Option Addr) (n c : Nat) (l : List Shf) (left : Int) (w : World) (hr : ShelvesR w A n l) (hn : n ≤ 9223372036854775807) (hok : ∀ x ∈ l, shOk x) (h0 : 0 ≤ left) (h1 : left ≤ 1048576) :
    Calls Try.prog 33 #[.slice A n c, .int .i64 left] w fun e w' => e = .returned (.int .i64 (szRes left (n + sumF shSz l n))) ∧ Below w.heap.size w w' := by
  have hl := Lib.hid hr.len
  have NN := Lib.hid (fun k => sumF_nonneg (f := shSz) (l := l) (fun x _ => shSz_nonneg x) k)
  have MO := Lib.hid (fun k (hk : k ≤ n) => sumF_mono (f := shSz) (l := l) (fun x _ => shSz_nonneg x) hk (by rw [hl.out]; exact Nat.le_refl _))
  have OK := Lib.hid hok; clear hok
  have nn := NN.out n
  by_cases hs : left - n < 0
  · have e0 := Lib.hid (show szRes left (n + sumF shSz l n) = -1 by rw [szRes_no (by omega)])
    go_enter Try.func33, Try.ntmps33
    go_wp2_with fail
    go_ret
    exact ⟨ret_int (by rw [e0.out]), Below.refl _ _⟩
  · go_enter Try.func33, Try.ntmps33
    go_wp2_with fail
    go_loopw [1, 5] (fun t i wr => ∃ k : Nat, k ≤ n ∧ i = .int .i64 k ∧ t = .int .i64 (left - n - sumF shSz l k) ∧ 0 ≤ left - n - sumF shSz l k ∧ Below w.heap.size w wr) (fun _ i _ => n - (intOf i).toNat)
    case atStart => exact ⟨0, Nat.zero_le _, rfl, by rw [sumF_zero]; simp, by rw [sumF_zero]; omega, Below.refl _ _⟩
    case round =>
      obtain ⟨k, hk, rfl, rfl, hge, hb⟩ := hrel
      have nn := NN.out k
      by_cases hlt : k < n
      · obtain ⟨g, off, rfl, ⟨item, ids, lays⟩, iA, iN, iC, lA, lN, lC, hx, h0', h1', h2', hre, hrf⟩ := (hr.below hb).shAt hlt
        have hs := Lib.hid (OK.out _ (List.mem_of_getElem? hx))
        have HS := Lib.hid (sumF_succ shSz hx)
        have mo := MO.out (k + 1) (by omega)
        rw [HS.out] at mo
        have sn := shSz_nonneg ⟨item, ids, lays⟩
        have e1 := hre.ints; have e2 := hrf.lay
        have SZ := Lib.hid (show shSz ⟨item, ids, lays⟩ = item.size + (iN + lN : Int) by simp only [shSz]; simp only at e1 e2; rw [e1, e2])
        have i64 : iN ≤ 9223372036854775807 := by have := hs.out.2.1; simp only at this e1; omega
        have l64 : lN ≤ 9223372036854775807 := by have := hs.out.2.2; simp only at this e2; omega
        simp only at h0' h1'
        have i1 : (0 : Int) ≤ k := by omega
        have i2 : (k : Int) < n := by omega
        clear hx e1 e2
        by_cases hneg : left - n - sumF shSz l k - shSz ⟨item, ids, lays⟩ < 0
        · have e0 := Lib.hid (show szRes left (n + sumF shSz l n) = -1 by rw [szRes_no (by omega)])
          have HN := Lib.hid (szRes_no (show left - n - sumF shSz l k < shSz ⟨item, ids, lays⟩ by omega))
          rw [SZ.out] at HN
          clear hneg mo sn
          go_wp2_with fail
          refine (szShelf_any item _ _ _ _ _ _ _ _ hs.out.1 i64 l64 hge (by omega)).mono ?_; rw [HN.out]; rintro e w1 ⟨rfl, hb1⟩
          go_wp2_with fail
          go_ret
          exact ⟨ret_int (by rw [e0.out]), below_app hb hb1 hb.size⟩
        · have HN := Lib.hid (szRes_yes (show shSz ⟨item, ids, lays⟩ ≤ left - n - sumF shSz l k by omega))
          have HG := Lib.hid (show 0 ≤ left - n - sumF shSz l (k + 1) by rw [HS.out]; omega)
          have HG2 := Lib.hid (show left - n - sumF shSz l k - shSz ⟨item, ids, lays⟩ = left - n - sumF shSz l (k + 1) by rw [HS.out]; omega)
          rw [HG2.out, SZ.out] at HN
          have hg := HG.out
          clear hneg mo sn
          go_wp2_with fail
          refine (szShelf_any item _ _ _ _ _ _ _ _ hs.out.1 i64 l64 hge (by omega)).mono ?_; rw [HN.out]; rintro e w1 ⟨rfl, hb1⟩
          go_wp2_with fail
          go_roundw
          case rel => exact ⟨k + 1, by omega, by go_num, rfl, HG.out, below_app hb hb1 hb.size⟩
          case measure => simp [intOf]; omega
      · obtain rfl : n = k := by omega
        have e0 := Lib.hid (show szRes left (n + sumF shSz l n) = left - n - sumF shSz l n by rw [szRes_yes (by omega)]; omega)
        go_wp2_with fail
        go_ret
        exact ⟨ret_int (by rw [e0.out]), hb⟩
def bkSz (sn dn : Nat) (ss : List Shf) (ds : List Doc) : Int := (sn + sumF shSz ss sn) + (dn + sumF docSz ds dn)
theorem bkSz_nonneg (sn dn : Nat) (ss : List Shf) (ds : List Doc) : 0 ≤ bkSz sn dn ss ds := by
  have h1 := sumF_nonneg (f := shSz) (l := ss) (fun x _ => shSz_nonneg x) sn
  have h2 := sumF_nonneg (f := docSz) (l := ds) (fun x _ => docSz_nonneg x) dn
  unfold bkSz; omega
theorem bk_small {sn dn : Nat} {ss : List Shf} {ds : List Doc} (h1 : ss.length = sn) (h2 : ds.length = dn) (hs : bkSz sn dn ss ds ≤ 1048576) :
    sn ≤ 1048576 ∧ dn ≤ 1048576 ∧ (∀ s ∈ ss, s.item.size ≤ 1048576 ∧ s.ids.length ≤ 1048576 ∧ s.lays.length ≤ 1048576) ∧ ∀ d ∈ ds, d.ents.length ≤ 1048576 := by
  have k1 := sumF_nonneg (f := shSz) (l := ss) (fun x _ => shSz_nonneg x) sn
  have k2 := sumF_nonneg (f := docSz) (l := ds) (fun x _ => docSz_nonneg x) dn
  unfold bkSz at hs
  exact ⟨by omega, by omega, shelves_small h1 (by omega), docs_small h2 (by omega)⟩
theorem szBooks_any (sA : Option Addr) (sn sc : Nat) (k : Int) (dA : Option Addr) (dn dc : Nat) (ss : List Shf) (ds : List Doc) (left : Int) (w : World) (hr : ShelvesR w sA sn ss) (hd : DocsR w dA dn ds)
    (hn : sn ≤ 9223372036854775807) (hm : dn ≤ 9223372036854775807) (hok : ∀ x ∈ ss, shOk x) (hok2 : ∀ x ∈ ds, docOk x) (h0 : 0 ≤ left) (h1 : left ≤ 1048576) :
    Calls Try.prog 10 #[.agg #[.slice sA sn sc, .int .i64 k, .slice dA dn dc], .int .i64 left] w fun e w' => e = .returned (.int .i64 (szRes left (bkSz sn dn ss ds))) ∧ Below w.heap.size w w' := by
  have n1 := sumF_nonneg (f := shSz) (l := ss) (fun x _ => shSz_nonneg x) sn
  have n2 := sumF_nonneg (f := docSz) (l := ds) (fun x _ => docSz_nonneg x) dn
  have OK := Lib.hid hok; have OK2 := Lib.hid hok2
  unfold bkSz
  clear hok hok2
  by_cases z1 : left < sn + sumF shSz ss sn
  · have R := Lib.hid (szRes_no (show left < (sn + sumF shSz ss sn) + (dn + sumF docSz ds dn) by omega))
    have R1 := Lib.hid (szRes_no z1)
    clear z1
    go_enter Try.func10, Try.ntmps10
    go_wp2_with fail
    refine (szShelfS_any _ _ _ ss _ _ (hr.below (below_box w _)) hn OK.out h0 h1).mono ?_; rw [R1.out]; rintro e w1 ⟨rfl, hb1⟩
    go_wp2_with fail
    go_ret
    exact ⟨ret_int (by rw [R.out]), below_then (below_box w _) hb1⟩
  · have R1 := Lib.hid (szRes_yes (Int.not_lt.1 z1))
    obtain ⟨t, ht⟩ : ∃ t, left - (sn + sumF shSz ss sn) = t := ⟨_, rfl⟩
    have t0 : 0 ≤ t := by omega
    have t1 : t ≤ 1048576 := by omega
    rw [ht] at R1
    by_cases z2 : t < dn + sumF docSz ds dn
    · have R := Lib.hid (szRes_no (show left < (sn + sumF shSz ss sn) + (dn + sumF docSz ds dn) by omega))
      have R2 := Lib.hid (szRes_no z2)
      clear z1 z2 ht
      go_enter Try.func10, Try.ntmps10
      go_wp2_with fail
      refine (szShelfS_any _ _ _ ss _ _ (hr.below (below_box w _)) hn OK.out h0 h1).mono ?_; rw [R1.out]; rintro e w1 ⟨rfl, hb1⟩
      have X := Lib.hid (blk_keep hb1 (blk_new1 w _))
      have x2 := blk_at X.out (j := 2) rfl
      have b1 := below_then (below_box w _) hb1
      go_wp2_with fail
      refine (szDocumentS_any _ _ _ ds _ _ (hd.below b1) hm OK2.out t0 t1).mono ?_; rw [R2.out]; rintro e w2 ⟨rfl, hb2⟩
      go_wp2_with fail
      go_ret
      exact ⟨ret_int (by rw [R.out]), below_then b1 hb2⟩
    · have R := Lib.hid (show szRes left ((sn + sumF shSz ss sn) + (dn + sumF docSz ds dn)) = t - (dn + sumF docSz ds dn) by rw [szRes_yes (by omega)]; omega)
      have R2 := Lib.hid (szRes_yes (Int.not_lt.1 z2))
      obtain ⟨u, hu⟩ : ∃ u, t - (dn + sumF docSz ds dn) = u := ⟨_, rfl⟩
      have u0 : 0 ≤ u := by omega
      rw [hu] at R R2
      clear z1 z2 ht hu
      go_enter Try.func10, Try.ntmps10
      go_wp2_with fail
      refine (szShelfS_any _ _ _ ss _ _ (hr.below (below_box w _)) hn OK.out h0 h1).mono ?_; rw [R1.out]; rintro e w1 ⟨rfl, hb1⟩
      have X := Lib.hid (blk_keep hb1 (blk_new1 w _))
      have x2 := blk_at X.out (j := 2) rfl
      have b1 := below_then (below_box w _) hb1
      go_wp2_with fail
      refine (szDocumentS_any _ _ _ ds _ _ (hd.below b1) hm OK2.out t0 t1).mono ?_; rw [R2.out]; rintro e w2 ⟨rfl, hb2⟩
      go_wp2_with fail
      go_ret
      exact ⟨ret_int (by rw [R.out]), below_then b1 hb2⟩

/-! ### equality -/
theorem eqShelf_true (s : Shf) (iA : Option Addr) (iN iC : Nat) (lA : Option Addr) (lN lC : Nat) (iA' : Option Addr) (iN' iC' : Nat) (lA' : Option Addr) (lN' lC' : Nat) (w : World)
    (hi : RS w 1 iA iN (intCells s.ids)) (hl : RS w 3 lA lN (layCells s.lays)) (hi' : RS w 1 iA' iN' (intCells s.ids)) (hl' : RS w 3 lA' lN' (layCells s.lays))
    (h1 : iN ≤ 9223372036854775807) (h2 : lN ≤ 9223372036854775807) (h3 : iN' ≤ 9223372036854775807) (h4 : lN' ≤ 9223372036854775807) :
    Calls Try.prog 72 #[.agg #[.string s.item, .slice iA iN iC, .slice lA lN lC], .agg #[.string s.item, .slice iA' iN' iC', .slice lA' lN' lC']] w fun e w' => e = .returned (.bool true) ∧ Below w.heap.size w w' := by
  obtain ⟨item, ids, lays⟩ := s
  simp only at hi hl hi' hl'
  have b0 := below_then (below_box w (Obj.cells #[.string item, .slice iA iN iC, .slice lA lN lC] 59)) (below_box _ (Obj.cells #[.string item, .slice iA' iN' iC', .slice lA' lN' lC'] 59))
  go_enter Try.func72, Try.ntmps72
  go_wp2_with fail
  refine (eqIntS_true _ _ _ ids _ _ _ ids _ (hi.below b0) (hi'.below b0) h1 h3 rfl).mono ?_; rintro e w1 ⟨rfl, hb1⟩
  have X := Lib.hid (blk_keep hb1 (blk_alloc (blk_new1 w _) _))
  have Y := Lib.hid (blk_keep hb1 (blk_new2 w _ _))
  have x2 := blk_at X.out (j := 2) rfl
  have y2 := blk_at Y.out (j := 2) rfl
  have b1 := below_then b0 hb1
  clear hb1 b0
  go_wp2_with fail
  refine (eqLayerS_any _ _ _ lays _ _ _ lays _ (hl.below b1) (hl'.below b1) h2 h4).mono ?_; rw [decide_eq_true rfl]; rintro e w2 ⟨rfl, hb2⟩
  go_wp2_with fail
  go_ret
  exact ⟨rfl, below_then b1 hb2⟩
set_option maxHeartbeats 1000000 in
theorem eqShelfS_true (A : Option Addr) (n c : Nat) (l : List Shf) (A' : Option Addr) (n' c' : Nat) (l' : List Shf) (w : World) (hr : ShelvesR w A n l) (hr' : ShelvesR w A' n' l') (hn : n ≤ 9223372036854775807) (hn' : n' ≤ 9223372036854775807) (hok : ∀ d ∈ l, shOk d) (heq : l = l') :
    Calls Try.prog 39 #[.slice A n c, .slice A' n' c'] w fun e w' => e = .returned (.bool true) ∧ Below w.heap.size w w' := by
  have hl := hr.len
  have hl' := hr'.len
  obtain rfl : n = n' := by rw [← hl, ← hl', heq]
  have HE := Lib.hid heq; have OK := Lib.hid hok; clear heq hl hl' hok
  go_enter Try.func39, Try.ntmps39
  go_wp2
  go_loopw [5] (fun i wr => ∃ k : Nat, k ≤ n ∧ i = .int .i64 k ∧ Below w.heap.size w wr) (fun i _ => n - (intOf i).toNat)
  case atStart => exact ⟨0, Nat.zero_le _, rfl, Below.refl _ _⟩
  case round =>
    obtain ⟨k, hk, rfl, hb⟩ := hrel
    by_cases hlt : k < n
    · obtain ⟨g, off, rfl, x, iA, iN, iC, lA, lN, lC, hx, h0, h1, h2, hre, hrf⟩ := (hr.below hb).shAt hlt
      obtain ⟨g', off', rfl, x', iA', iN', iC', lA', lN', lC', hx', k0, k1, k2, hre', hrf'⟩ := (hr'.below hb).shAt hlt
      have hle := OK.out x (List.mem_of_getElem? hx)
      rw [HE.out, hx'] at hx
      obtain rfl : x' = x := by simpa using hx
      clear hx hx'
      obtain ⟨item, ids, lays⟩ := x'
      obtain ⟨_, o1, o2⟩ := hle
      simp only at h0 h1 h2 hre hrf k0 k1 k2 hre' hrf' o1 o2
      have z1 := hre.ints; have z2 := hre'.ints; have z3 := hrf.lay; have z4 := hrf'.lay
      have n1 : iN ≤ 9223372036854775807 := by omega
      have n2 : iN' ≤ 9223372036854775807 := by omega
      have n3 : lN ≤ 9223372036854775807 := by omega
      have n4 : lN' ≤ 9223372036854775807 := by omega
      have i1 : (0 : Int) ≤ k := by omega
      have i2 : (k : Int) < n := by omega
      have a0 := cell_wext h0; have a1 := cell_wext h1; have a2 := cell_wext h2; have b0 := cell_wext k0; have b1 := cell_wext k1; have b2 := cell_wext k2
      clear z1 z2 z3 z4
      go_wp2
      refine wp_region_ext (by kernel_rfl) (by kernel_rfl) ?_
      repeat (go_big_quiet_step ((go_at_call 72; exact ext_call (eqShelf_true ⟨item, ids, lays⟩ _ _ _ _ _ _ _ _ _ _ _ _ _ (hre.wext _) (hrf.wext _) (hre'.wext _) (hrf'.wext _) n1 n3 n2 n4))))
      refine wpQuiet_nil ?_
      intro _ hw'; obtain ⟨nq, hw''⟩ := hw'; subst hw''
      go_wp2
      go_roundw
      case rel => exact ⟨k + 1, by omega, by go_num, below_app hb (below_wext _ _) hb.size⟩
      case measure => simp [intOf]; omega
    · go_wp2
      have : k = n := by omega
      subst this
      go_ret
      exact ⟨rfl, hb⟩
theorem eqBooks_true (sA : Option Addr) (sn sc : Nat) (k : Int) (dA : Option Addr) (dn dc : Nat) (sA' : Option Addr) (sn' sc' : Nat) (dA' : Option Addr) (dn' dc' : Nat) (ss : List Shf) (ds : List Doc) (w : World)
    (hr : ShelvesR w sA sn ss) (hd : DocsR w dA dn ds) (hr' : ShelvesR w sA' sn' ss) (hd' : DocsR w dA' dn' ds) (hn : sn ≤ 9223372036854775807) (hm : dn ≤ 9223372036854775807) (hn' : sn' ≤ 9223372036854775807) (hm' : dn' ≤ 9223372036854775807) (hok : ∀ x ∈ ss, shOk x) (hok2 : ∀ d ∈ ds, d.ents.length ≤ 9223372036854775807) :
    Calls Try.prog 14 #[.agg #[.slice sA sn sc, .int .i64 k, .slice dA dn dc], .agg #[.slice sA' sn' sc', .int .i64 k, .slice dA' dn' dc']] w fun e w' => e = .returned (.bool true) ∧ Below w.heap.size w w' := by
  have OK := Lib.hid hok; have OK2 := Lib.hid hok2
  clear hok hok2
  have b0 := below_then (below_box w (Obj.cells #[.slice sA sn sc, .int .i64 k, .slice dA dn dc] 31)) (below_box _ (Obj.cells #[.slice sA' sn' sc', .int .i64 k, .slice dA' dn' dc'] 31))
  go_enter Try.func14, Try.ntmps14
  go_wp2_with fail
  refine (eqShelfS_true _ _ _ ss _ _ _ ss _ (hr.below b0) (hr'.below b0) hn hn' OK.out rfl).mono ?_; rintro e w1 ⟨rfl, hb1⟩
  have X := Lib.hid (blk_keep hb1 (blk_alloc (blk_new1 w _) _))
  have Y := Lib.hid (blk_keep hb1 (blk_new2 w _ _))
  have x1 := blk_at X.out (j := 1) rfl; have x2 := blk_at X.out (j := 2) rfl
  have y1 := blk_at Y.out (j := 1) rfl; have y2 := blk_at Y.out (j := 2) rfl
  have b1 := below_then b0 hb1
  clear hb1 b0
  go_wp2_with fail
  refine (eqDocumentS_true _ _ _ ds _ _ _ ds _ (hd.below b1) (hd'.below b1) hm hm' OK2.out rfl).mono ?_; rintro e w2 ⟨rfl, hb2⟩
  go_wp2_with fail
  go_ret
  exact ⟨rfl, below_then b1 hb2⟩
end Go.Proofs.Ytlgodbjbllpipaa
