/- The plain words of booking an event. No condition. -/
import Derived.Test.YtlgodbjbllpipaaShelfOf
import Derived.Test.YtlgodbjbllpipaaPost
import Derived.Test.YtlgodbjbllpipaaLay2
import Derived.Test.YtlgodbjbllpipaaLay3
import Derived.Test.YtlgodbjbllpipaaEvent
namespace Go.Proofs.Ytlgodbjbllpipaa
open Go.RowKit

/-! ### shelves that are right -/
def shsOk (ss : List Shf) : Bool := allAt ss (shGood ss) && decide (ss.length ≤ 12)
theorem areBk_shs {ss : List Shf} {k : Int} {ds : List Doc} (h : areBk ss k ds = true) : shsOk ss = true := by
  simp only [areBk, Bool.and_eq_true] at h
  simp [shsOk, h.1, h.2.1]
theorem shsOk_len {ss : List Shf} (h : shsOk ss = true) : ss.length ≤ 12 := by simp [shsOk] at h; exact h.2
theorem shsOk_at {ss : List Shf} (h : shsOk ss = true) {s : Shf} (hs : s ∈ ss) : areLayers s.lays = true ∧ s.ids.length = s.lays.length ∧ s.lays.length ≤ 24 := by
  simp only [shsOk, Bool.and_eq_true] at h
  obtain ⟨j, hj, rfl⟩ := List.getElem_of_mem hs
  have := allAt_true h.1 (List.getElem?_eq_getElem hj)
  simp only [shGood, Bool.and_eq_true, decide_eq_true_eq] at this
  exact ⟨this.2.2.1, this.2.2.2.1, areLayers_len this.2.2.1⟩

/-! ### a new shelf -/
def cntLess (ss : List Shf) (item : ByteArray) : Nat := (ss.takeWhile (fun x => txtLess x.item item)).length
theorem cntLess_le (ss : List Shf) (item : ByteArray) : cntLess ss item ≤ ss.length := (List.takeWhile_prefix _).length_le
theorem cntLess_at {item : ByteArray} : ∀ {ss : List Shf} {k : Nat} {x : Shf}, (∀ (j : Nat) (y : Shf), j < k → ss[j]? = some y → txtLess y.item item = true) → ss[k]? = some x → txtLess x.item item = false → cntLess ss item = k
  | [], _, _, _, h, _ => by simp at h
  | y :: ss, 0, x, _, h, hx => by simp at h; subst h; simp [cntLess, hx]
  | y :: ss, k + 1, x, hb, h, hx => by
    have := cntLess_at (ss := ss) (k := k) (x := x) (fun j z hj hz => hb (j + 1) z (by omega) (by simpa using hz)) (by simpa using h) hx
    have h0 := hb 0 y (by omega) (by simp)
    simp only [cntLess, List.takeWhile_cons, h0] at this ⊢
    simp [this]
theorem cntLess_all {item : ByteArray} : ∀ {ss : List Shf}, (∀ (j : Nat) (y : Shf), ss[j]? = some y → txtLess y.item item = true) → cntLess ss item = ss.length
  | [], _ => rfl
  | y :: ss, hb => by
    have := cntLess_all (ss := ss) (fun j z hz => hb (j + 1) z (by simpa using hz))
    have h0 := hb 0 y (by simp)
    simp only [cntLess, List.takeWhile_cons, h0] at this ⊢
    simp [this]
def insAt (ss : List Shf) (item : ByteArray) : Nat := if shelfAt ss item < 0 then cntLess ss item else (shelfAt ss item).toNat
def insSs (ss : List Shf) (item : ByteArray) : List Shf := if shelfAt ss item < 0 then ss.take (cntLess ss item) ++ ⟨item, [], []⟩ :: ss.drop (cntLess ss item) else ss
def shGet (ss : List Shf) (item : ByteArray) : Shf := if shelfAt ss item < 0 then ⟨item, [], []⟩ else ss.getD (shelfAt ss item).toNat ⟨item, [], []⟩
theorem shGet_at {ss : List Shf} {item : ByteArray} {k : Nat} {s : Shf} (hk : shelfAt ss item = k) (hs : ss[k]? = some s) : shGet ss item = s := by
  simp [shGet, hk, List.getD, hs]
  omega
theorem ins_get (ss : List Shf) (item : ByteArray) : (insSs ss item)[insAt ss item]? = some (shGet ss item) ∧ (shGet ss item).item = item := by
  rcases shelfAt_cases ss item with ⟨h, _⟩ | ⟨k, x, h, hx, he, _⟩
  · have hl := cntLess_le ss item
    unfold insSs insAt shGet
    rw [h, if_pos (by omega), if_pos (by omega), if_pos (by omega)]
    refine ⟨?_, rfl⟩
    rw [List.getElem?_append_right (by simp; omega), List.length_take, Nat.min_eq_left hl, Nat.sub_self]
    rfl
  · rw [shGet_at h hx]
    unfold insSs insAt
    rw [h, if_neg (by omega), if_neg (by omega)]
    exact ⟨by simpa using hx, he⟩
theorem insSs_len (ss : List Shf) (item : ByteArray) : (insSs ss item).length = if shelfAt ss item < 0 then ss.length + 1 else ss.length := by
  have hl := cntLess_le ss item
  unfold insSs; split
  · simp; omega
  · rfl

/-! ### receive -/
def recvOk (ss : List Shf) (item : ByteArray) (q v : Int) : Bool := areLayers (recvL (shGet ss item).lays q v) && decide ((insSs ss item).length ≤ 12)
def recvSs (ss : List Shf) (item : ByteArray) (q v id : Int) : List Shf := (insSs ss item).set (insAt ss item) ⟨item, (shGet ss item).ids ++ [id], recvL (shGet ss item).lays q v⟩
theorem recvOk_and {ss : List Shf} {item : ByteArray} {q v : Int} (h : recvOk ss item q v = true) : areLayers (recvL (shGet ss item).lays q v) = true ∧ (insSs ss item).length ≤ 12 := by
  simpa [recvOk] using h

/-! ### issue -/
def issOk (ss : List Shf) (item : ByteArray) (q : Int) : Bool := decide (0 ≤ shelfAt ss item) && issueOk (shGet ss item).lays q
def issCost (ss : List Shf) (item : ByteArray) (q : Int) : Int := issueCost (shGet ss item).lays q
def issSs (ss : List Shf) (item : ByteArray) (q : Int) : List Shf := ss.set (shelfAt ss item).toNat ⟨item, (shGet ss item).ids, issueOut (shGet ss item).lays q⟩
theorem issueCost_bd24 (l : List Lay) (q : Int) : 0 ≤ issueCost l q ∧ issueCost l q ≤ 24000000000 := by
  unfold issueCost; split
  · next h =>
    simp only [issueOk, Bool.and_eq_true] at h
    have h2 := inB_true.1 h.2
    have := issueTo_bd h.1 (q := q) (by omega) (Nat.le_refl _)
    have := areLayers_len h.1
    omega
  · omega

/-! ### late -/
def lastTo (l : List Int) (r : Int) : Nat → Int
  | 0 => -1
  | i + 1 => if l[i]? = some r then i else lastTo l r i
theorem lastTo_bd (l : List Int) (r : Int) : ∀ i, -1 ≤ lastTo l r i ∧ lastTo l r i < i
  | 0 => by simp [lastTo]
  | i + 1 => by
    have := lastTo_bd l r i
    unfold lastTo; split <;> omega
theorem lastTo_hit {l : List Int} {r x : Int} {i : Nat} (h : l[i]? = some x) (e : x = r) : lastTo l r (i + 1) = i := by simp [lastTo, h, e]
theorem lastTo_miss {l : List Int} {r x : Int} {i : Nat} (h : l[i]? = some x) (e : ¬ x = r) : lastTo l r (i + 1) = lastTo l r i := by simp [lastTo, h, e]
def lateIx (ss : List Shf) (item : ByteArray) (r : Int) : Int := if shelfAt ss item < 0 then -1 else lastTo (shGet ss item).ids r (shGet ss item).ids.length
def lateCode (ss : List Shf) (item : ByteArray) (r a : Int) : Int := if lateIx ss item r < 0 then 4 else if lateOk (shGet ss item).lays (lateIx ss item r) a then 0 else 2
def lateCost (ss : List Shf) (item : ByteArray) (r a : Int) : Int := lateGone (shGet ss item).lays (lateIx ss item r) a
def lateSs (ss : List Shf) (item : ByteArray) (r a : Int) : List Shf := ss.set (shelfAt ss item).toNat ⟨item, (shGet ss item).ids, lateOut (shGet ss item).lays (lateIx ss item r) a⟩

/-! ### post -/
def nz (es : List En) : List En := es.filter (fun x => decide (x.amt ≠ 0))
theorem nz_len (es : List En) : (nz es).length ≤ es.length := List.length_filter_le _ _
theorem nz_yes {es : List En} {k : Nat} {x : En} (h : es[k]? = some x) (hx : ¬ x.amt = 0) : nz (es.take (k + 1)) = nz (es.take k) ++ [x] := by
  simp [nz, List.take_add_one, h, hx]
theorem nz_no {es : List En} {k : Nat} {x : En} (h : es[k]? = some x) (hx : x.amt = 0) : nz (es.take (k + 1)) = nz (es.take k) := by
  simp [nz, List.take_add_one, h, hx]
def bkPostOk (ds : List Doc) (day : Int) (es : List En) : Bool := (nz es).isEmpty || areDocs (withDoc ds day (nz es))
def bkPostDs (ds : List Doc) (day : Int) (es : List En) : List Doc := if (nz es).isEmpty then ds else withDoc ds day (nz es)

/-! ### booking -/
def tStock : ByteArray := ⟨#[83, 84, 79, 67, 75]⟩
def tSupply : ByteArray := ⟨#[83, 85, 80, 80, 76, 89]⟩
def tWork : ByteArray := ⟨#[87, 79, 82, 75]⟩
def tCash : ByteArray := ⟨#[67, 65, 83, 72]⟩
def tSales : ByteArray := ⟨#[83, 65, 76, 69, 83]⟩
def tCost : ByteArray := ⟨#[67, 79, 83, 84]⟩
structure Bk where
  ss : List Shf
  k : Int
  ds : List Doc
def postB (ss : List Shf) (k : Int) (ds : List Doc) (day : Int) (es : List En) : Int × Bk := if bkPostOk ds day es then (0, ⟨ss, k, bkPostDs ds day es⟩) else (3, ⟨ss, k, ds⟩)
def buyE (e : Ev) : List En := [⟨tStock, e.a⟩, ⟨tSupply, -e.a⟩]
def makeE (e : Ev) : List En := [⟨tStock, e.a⟩, ⟨tWork, -e.a⟩]
def issE (x : Int) : List En := [⟨tWork, x⟩, ⟨tStock, -x⟩]
def sellE (e : Ev) (x : Int) : List En := [⟨tCash, e.a⟩, ⟨tSales, -e.a⟩, ⟨tCost, x⟩, ⟨tStock, -x⟩]
def lateE (e : Ev) (x : Int) : List En := [⟨tStock, e.a - x⟩, ⟨tCost, x⟩, ⟨tSupply, -e.a⟩]
def bookBuy (b : Bk) (e : Ev) : Int × Bk := if recvOk b.ss e.item e.q e.a then postB (recvSs b.ss e.item e.q e.a e.id) b.k b.ds e.day (buyE e) else (3, b)
def bookMake (b : Bk) (e : Ev) : Int × Bk := if b.k < e.a then (2, b) else if recvOk b.ss e.item e.q e.a then postB (recvSs b.ss e.item e.q e.a e.id) (b.k - e.a) b.ds e.day (makeE e) else (3, b)
def bookIss (b : Bk) (e : Ev) : Int × Bk :=
  if issOk b.ss e.item e.q then
    (if (1000000000 : Int) < b.k + issCost b.ss e.item e.q then (3, b) else postB (issSs b.ss e.item e.q) (b.k + issCost b.ss e.item e.q) b.ds e.day (issE (issCost b.ss e.item e.q)))
  else (2, b)
def bookSell (b : Bk) (e : Ev) : Int × Bk := if issOk b.ss e.item e.q then postB (issSs b.ss e.item e.q) b.k b.ds e.day (sellE e (issCost b.ss e.item e.q)) else (2, b)
def bookLate (b : Bk) (e : Ev) : Int × Bk :=
  if lateCode b.ss e.item e.r e.a = 0 then postB (lateSs b.ss e.item e.r e.a) b.k b.ds e.day (lateE e (lateCost b.ss e.item e.r e.a)) else (lateCode b.ss e.item e.r e.a, b)
def bookB (b : Bk) (e : Ev) : Int × Bk :=
  if e.kind = 1 then bookBuy b e else if e.kind = 3 then bookMake b e else if e.kind = 2 then bookIss b e else if e.kind = 4 then bookSell b e else bookLate b e
def bookEv (b : Bk) (e : Ev) : Int × Bk :=
  if areBk b.ss b.k b.ds && isEvent e then (if (bookB b e).1 = 0 then bookB b e else ((bookB b e).1, b)) else (1, b)
end Go.Proofs.Ytlgodbjbllpipaa
