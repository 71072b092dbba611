/- Explosions and costs without a limit: the plain law. No condition. -/
import Derived.Test.YtnhkpdaogclfjaaStdP
namespace Go.Proofs.Ytnhkpdaogclfjaa
open Go.RowKit

/-! ### codes of a catalog stand once -/
theorem cless_irrefl : ∀ x : List UInt8, Op.bytesLess x x = false
  | [] => rfl
  | a :: x => by simp [Op.bytesLess, cless_irrefl x]
theorem cless_trans : ∀ {x y z : List UInt8}, Op.bytesLess x y = true → Op.bytesLess y z = true → Op.bytesLess x z = true
  | [], [], _, h, _ => by simp [Op.bytesLess] at h
  | [], _ :: _, [], _, h => by simp [Op.bytesLess] at h
  | [], _ :: _, _ :: _, _, _ => rfl
  | _ :: _, [], _, h, _ => by simp [Op.bytesLess] at h
  | _ :: _, _ :: _, [], _, h => by simp [Op.bytesLess] at h
  | a :: x, b :: y, c :: z, h, k => by
    simp only [Op.bytesLess, Bool.or_eq_true, Bool.and_eq_true, decide_eq_true_eq, beq_iff_eq] at h k ⊢
    rcases h with h | ⟨rfl, h⟩
    · rcases k with k | ⟨rfl, k⟩
      · exact .inl (UInt8.lt_trans h k)
      · exact .inl h
    · rcases k with k | ⟨rfl, k⟩
      · exact .inl k
      · exact .inr ⟨rfl, cless_trans h k⟩
theorem cat_step {cat : List It} (hc : isCat cat = true) {k : Nat} {x y : It} (hx : cat[k]? = some x) (hy : cat[k + 1]? = some y) : txtLess x.code y.code = true := by
  have hk := (List.getElem?_eq_some_iff.1 hy).1
  simp only [isCat, Bool.and_eq_true] at hc
  have h1 : catOk cat (k + 1) y = true := by
    have := hc.1
    rw [allAt, List.all_eq_true] at this
    have := this (k + 1) (List.mem_range.2 hk)
    rw [hy] at this
    exact this
  simp only [catOk, Bool.and_eq_true] at h1
  have h2 := h1.2
  rw [rises_at (y := x) (by omega) (by simpa using hx)] at h2
  exact h2
theorem cat_less {cat : List It} (hc : isCat cat = true) : ∀ (d k : Nat) (x y : It), cat[k]? = some x → cat[k + 1 + d]? = some y → txtLess x.code y.code = true
  | 0, _, _, _, hx, hy => cat_step hc hx hy
  | d + 1, k, x, y, hx, hy => by
    have hk := (List.getElem?_eq_some_iff.1 hy).1
    have hz : cat[k + 1 + d]? = some cat[k + 1 + d] := List.getElem?_eq_getElem (by omega)
    exact cless_trans (cat_less hc d k x _ hx hz) (cat_step hc hz hy)
theorem cat_ne {cat : List It} (hc : isCat cat = true) {j k : Nat} {x y : It} (hx : cat[j]? = some x) (hy : cat[k]? = some y) (h : j < k) : ¬ x.code = y.code := fun e => by
  have := cat_less hc (k - j - 1) j x y hx (by rw [show j + 1 + (k - j - 1) = k by omega]; exact hy)
  rw [e, txtLess, cless_irrefl] at this
  cases this
theorem find_self {cat : List It} (hc : isCat cat = true) {k : Nat} {x : It} (hx : cat[k]? = some x) : findAt cat x.code = k :=
  findAt_hit hx rfl fun _ _ hj hy => cat_ne hc hy hx hj

/-! ### sums over lines -/
def lsum (f : Bl → Int) : List Bl → Int
  | [] => 0
  | x :: l => f x + lsum f l
theorem lsum_same {f g : Bl → Int} : ∀ (l : List Bl), (∀ x ∈ l, f x = g x) → lsum f l = lsum g l
  | [], _ => rfl
  | x :: l, h => by rw [lsum, lsum, h x (by simp), lsum_same l fun y hy => h y (by simp [hy])]
theorem lsum_drop {f : Bl → Int} {l : List Bl} {k : Nat} {x : Bl} (h : l[k]? = some x) : lsum f (l.drop k) = f x + lsum f (l.drop (k + 1)) := by
  obtain ⟨hk, rfl⟩ := List.getElem?_eq_some_iff.1 h
  rw [List.drop_eq_getElem_cons hk]; rfl
theorem lsum_done {f : Bl → Int} {l : List Bl} {k : Nat} (h : l.length ≤ k) : lsum f (l.drop k) = 0 := by rw [List.drop_eq_nil_of_le h]; rfl
/-- What a line adds to its parent s. -/
def lnPart (f : ByteArray → Int) (s : ByteArray) (x : Bl) : Int := if x.par = s then x.qty * f x.part else 0
/-- Costs without a limit. -/
def costT (act : List Bl) (pr : ByteArray → Int) : Nat → ByteArray → Int
  | 0, s => pr s
  | d + 1, s => pr s + lsum (lnPart (costT act pr d) s) act
theorem costT_deep {act : List Bl} {pr : ByteArray → Int} {L : ByteArray → Int} {n : Nat} (h : Rises act L n) : ∀ (d : Nat) (s : ByteArray), L s < n → (n : Int) ≤ L s + d → costT act pr (d + 1) s = costT act pr d s
  | 0, s, hi, hd => by omega
  | d + 1, s, hi, hd => by
    show pr s + _ = pr s + _
    rw [lsum_same act fun x hx => ?_]
    unfold lnPart
    by_cases hp : x.par = s
    · rw [if_pos hp, if_pos hp]
      have hr := h x hx
      rw [hp] at hr
      rw [costT_deep h d x.part hr.2.1 (by omega)]
    · rw [if_neg hp, if_neg hp]
theorem costT_all {act : List Bl} {pr : ByteArray → Int} {L : ByteArray → Int} {n : Nat} (h : Rises act L n) (s : ByteArray) (h0 : 0 ≤ L s) (h1 : L s < n) :
    costT act pr n s = pr s + lsum (lnPart (costT act pr n) s) act := (costT_deep h n s h1 (by omega)).symm.trans rfl
theorem cTimes_pos {a b : Int} (h : 0 ≤ cTimes a b) : 0 ≤ a ∧ cTimes a b = b * a := by
  unfold cTimes at h ⊢
  by_cases h1 : a < 0 ∨ b < 0
  · rw [if_pos h1] at h; omega
  · rw [if_neg h1] at h ⊢
    by_cases h2 : 1000000000 < a * b
    · rw [if_pos h2] at h; omega
    · rw [if_neg h2]; exact ⟨by omega, Int.mul_comm _ _⟩
theorem cPlus_pos {a b : Int} (h : 0 ≤ cPlus a b) : 0 ≤ a ∧ 0 ≤ b ∧ cPlus a b = a + b := by
  unfold cPlus at h ⊢
  by_cases h1 : a < 0 ∨ b < 0
  · rw [if_pos h1] at h; omega
  · rw [if_neg h1] at h ⊢
    by_cases h2 : 1000000000 < a + b
    · rw [if_pos h2] at h; omega
    · rw [if_neg h2]; omega
theorem csFold_T {f g : ByteArray → Int} {s : ByteArray} : ∀ (l : List Bl) (t : Int), (∀ x ∈ l, 0 ≤ f x.part → f x.part = g x.part) → 0 ≤ l.foldl (csStep f s) t → 0 ≤ t ∧ l.foldl (csStep f s) t = t + lsum (lnPart g s) l
  | [], t, _, h => ⟨h, by simp [lsum]⟩
  | x :: l, t, hf, h => by
    obtain ⟨h1, h2⟩ := csFold_T l (csStep f s t x) (fun y hy => hf y (by simp [hy])) h
    rw [List.foldl_cons, h2, lsum]
    unfold csStep lnPart at *
    by_cases hp : x.par = s
    · rw [if_pos hp] at h1
      rw [if_pos hp, if_pos hp]
      obtain ⟨a, b, c⟩ := cPlus_pos h1
      obtain ⟨d, e⟩ := cTimes_pos b
      rw [c, e, hf x (by simp) d]
      exact ⟨a, by omega⟩
    · rw [if_neg hp] at h1
      rw [if_neg hp, if_neg hp]
      exact ⟨h1, by omega⟩
theorem costS_T (act : List Bl) (pr : ByteArray → Int) : ∀ (d : Nat) (s : ByteArray), 0 ≤ costS act pr d s → costS act pr d s = costT act pr d s
  | 0, _, _ => rfl
  | d + 1, s, h => (csFold_T act (pr s) (fun x _ hx => costS_T act pr d x.part hx) h).2

/-! ### pieces times values -/
def dot (o v : Nat → Int) : Nat → Int
  | 0 => 0
  | n + 1 => dot o v n + o n * v n
theorem dot_same {o v o' v' : Nat → Int} : ∀ (n : Nat), (∀ j, j < n → o j * v j = o' j * v' j) → dot o v n = dot o' v' n
  | 0, _ => rfl
  | n + 1, h => by rw [dot, dot, dot_same n fun j hj => h j (by omega), h n (by omega)]
theorem dot_turn {o v o' v' : Nat → Int} {k : Nat} : ∀ (n : Nat), k < n → (∀ j, j < n → j ≠ k → o j * v j = o' j * v' j) → dot o' v' n = dot o v n + (o' k * v' k - o k * v k)
  | 0, h, _ => by omega
  | n + 1, h, hs => by
    rw [dot, dot]
    by_cases hk : k = n
    · subst hk
      rw [dot_same k fun j hj => hs j (by omega) (by omega)]
      omega
    · rw [dot_turn n (by omega) fun j hj => hs j (by omega), hs n (by omega) (by omega)]
      omega
theorem dot_zero {o v : Nat → Int} : ∀ (n : Nat), (∀ j, j < n → o j = 0) → dot o v n = 0
  | 0, _ => rfl
  | n + 1, h => by rw [dot, dot_zero n fun j hj => h j (by omega), h n (by omega)]; simp

/-- Where a walk through levels and items stands: what is behind it. -/
def behind (lv : Nat → Int) (l i : Nat) (j : Nat) : Bool := decide (lv j < (l : Int)) || (decide (lv j = (l : Int)) && decide (j < i))
def worth (D : Nat → Bool) (p T : Nat → Int) (j : Nat) : Int := if D j then p j else T j
structure PInv (nc f : Nat) (lv p T : Nat → Int) (tot : Int) (D : Nat → Bool) (o : Nat → Int) : Prop where
  bd : ∀ j, j < nc → 0 ≤ o j ∧ o j ≤ 1000000000
  one : o f = 1
  up : ∀ j, j < nc → o j ≠ 0 → j = f ∨ lv f < lv j
  sum : dot o (worth D p T) nc = tot
/-- In the midst of an item i: rest is what its lines have still to give. -/
structure PMid (nc f : Nat) (lv p T : Nat → Int) (tot : Int) (D : Nat → Bool) (i : Nat) (rest : Int) (o : Nat → Int) : Prop where
  bd : ∀ j, j < nc → 0 ≤ o j ∧ o j ≤ 1000000000
  one : o f = 1
  up : ∀ j, j < nc → o j ≠ 0 → j = f ∨ lv f < lv j
  sum : dot o (worth D p T) nc + o i * rest = tot
section
variable {nc f : Nat} {lv p T : Nat → Int} {tot : Int} {o : Nat → Int}
theorem PInv.first (hf : f < nc) (h0 : ∀ j, j < nc → 0 ≤ lv j) (ht : T f = tot) : PInv nc f lv p T tot (behind lv 0 0) (fun j => if j = f then 1 else 0) := by
  refine ⟨fun j _ => by split <;> omega, by simp, fun j _ h => ?_, ?_⟩
  · by_cases e : j = f
    · exact .inl e
    · simp [e] at h
  · rw [dot_turn (o := fun _ => 0) (v := T) (k := f) nc hf ?_, dot_zero nc (fun _ _ => rfl)]
    · have : behind lv 0 0 f = false := by have := h0 f hf; unfold behind; simp; omega
      simp [worth, this, ht]
    · intro j _ hj
      simp [hj]
theorem behind_next {l i : Nat} {j : Nat} (h : lv i ≠ l) : behind lv l (i + 1) j = behind lv l i j := by
  unfold behind
  by_cases e : j = i
  · subst e; simp [h]
  · have : decide (j < i + 1) = decide (j < i) := by simp; omega
    rw [this]
theorem PInv.skip {l i : Nat} (h : PInv nc f lv p T tot (behind lv l i) o) (hs : lv i ≠ l ∨ o i = 0) : PInv nc f lv p T tot (behind lv l (i + 1)) o := by
  refine ⟨h.bd, h.one, h.up, ?_⟩
  rw [← h.sum]
  refine dot_same nc fun j _ => ?_
  by_cases e : j = i
  · subst e
    rcases hs with hs | hs
    · unfold worth; rw [behind_next hs]
    · rw [hs]; simp
  · have : behind lv l (i + 1) j = behind lv l i j := by
      unfold behind
      have : decide (j < i + 1) = decide (j < i) := by simp; omega
      rw [this]
    unfold worth; rw [this]
theorem PInv.round {l : Nat} (h : PInv nc f lv p T tot (behind lv l nc) o) : PInv nc f lv p T tot (behind lv (l + 1) 0) o := by
  refine ⟨h.bd, h.one, h.up, ?_⟩
  rw [← h.sum]
  refine dot_same nc fun j hj => ?_
  have : behind lv (l + 1) 0 j = behind lv l nc j := by
    unfold behind
    simp only [Nat.not_lt_zero, decide_false, Bool.and_false, Bool.or_false, hj, decide_true, Bool.and_true]
    rw [Bool.eq_iff_iff]
    simp only [decide_eq_true_eq, Bool.or_eq_true]
    omega
  unfold worth; rw [this]
theorem PInv.item {l i : Nat} {r : Int} (h : PInv nc f lv p T tot (behind lv l i) o) (hi : i < nc) (hl : lv i = l) (hT : T i = p i + r) : PMid nc f lv p T tot (behind lv l (i + 1)) i r o := by
  refine ⟨h.bd, h.one, h.up, ?_⟩
  have b1 : behind lv l i i = false := by simp [behind, hl]
  have b2 : behind lv l (i + 1) i = true := by simp [behind, hl]
  rw [← h.sum, dot_turn (o := o) (v := worth (behind lv l i) p T) (o' := o) (v' := worth (behind lv l (i + 1)) p T) (k := i) nc hi ?_]
  · simp only [worth, b1, b2]
    rw [if_pos trivial, if_neg (by simp), hT]
    rw [Int.mul_add]; omega
  · intro j _ hj
    have : behind lv l (i + 1) j = behind lv l i j := by
      unfold behind
      have : decide (j < i + 1) = decide (j < i) := by simp; omega
      rw [this]
    unfold worth; rw [this]
theorem PMid.done {D : Nat → Bool} {i : Nat} (h : PMid nc f lv p T tot D i 0 o) : PInv nc f lv p T tot D o := ⟨h.bd, h.one, h.up, by have := h.sum; rw [Int.mul_zero] at this; omega⟩
theorem PMid.line {l i k : Nat} {q r : Int} {o' : Nat → Int} (h : PMid nc f lv p T tot (behind lv l (i + 1)) i (q * T k + r) o) (hi : i < nc) (hk : k < nc) (hl : lv i = l) (hlk : lv i < lv k) (hq : 0 ≤ q) (hoi : o i ≠ 0)
    (ho : ∀ j, o' j = if j = k then o k + o i * q else o j) (hb : o k + o i * q ≤ 1000000000) : PMid nc f lv p T tot (behind lv l (i + 1)) i r o' := by
  have hup := h.up i hi hoi
  have hfi : lv f ≤ lv i := by
    rcases hup with e | e
    · rw [e]; exact Int.le_refl _
    · omega
  have hfk : f ≠ k := fun e => by rw [e] at hfi; omega
  have hik : i ≠ k := fun e => by rw [e] at hlk; omega
  refine ⟨fun j hj => ?_, ?_, fun j hj hne => ?_, ?_⟩
  · rw [ho]
    split
    · have h1 := h.bd k hk
      have h2 := h.bd i hi
      have := Int.mul_nonneg h2.1 hq
      omega
    · exact h.bd j hj
  · rw [ho, if_neg hfk]; exact h.one
  · rw [ho] at hne
    by_cases e : j = k
    · rw [e]; exact .inr (by omega)
    · rw [if_neg e] at hne; exact h.up j hj hne
  · have hw : behind lv l (i + 1) k = false := by simp [behind]; omega
    rw [dot_turn (o := o) (v := worth (behind lv l (i + 1)) p T) (o' := o') (v' := worth (behind lv l (i + 1)) p T) (k := k) nc hk (fun j _ hj => by rw [ho, if_neg hj])]
    rw [ho k, if_pos rfl, ho i, if_neg hik, ← h.sum]
    simp only [worth, hw]
    rw [if_neg (by simp), Int.add_mul, Int.mul_add, Int.mul_assoc]
    omega
theorem PInv.last {o' : Nat → Int} (h : PInv nc f lv p T tot (behind lv (nc + 1) 0) o) (hf : f < nc) (hL : ∀ j, j < nc → lv j < nc) (ho : ∀ j, o' j = if j = f then 0 else o j) :
    (∀ j, j < nc → 0 ≤ o' j ∧ o' j ≤ 1000000000) ∧ dot o' p nc + p f = tot := by
  refine ⟨fun j hj => ?_, ?_⟩
  · rw [ho]; split
    · omega
    · exact h.bd j hj
  · rw [dot_turn (o := o) (v := p) (o' := o') (v' := p) (k := f) nc hf (fun j _ hj => by rw [ho, if_neg hj]), ho, if_pos rfl, h.one, ← h.sum]
    rw [dot_same (o := o) (v := worth (behind lv (nc + 1) 0) p T) (o' := o) (v' := p) nc fun j hj => ?_]
    · omega
    · have : behind lv (nc + 1) 0 j = true := by have := hL j hj; simp [behind]; omega
      simp [worth, this]
end

/-! ### the list of needs -/
def nsum (pr : ByteArray → Int) : List Nd → Int
  | [] => 0
  | x :: l => x.qty * pr x.code + nsum pr l
theorem nsum_app (pr : ByteArray → Int) : ∀ l m : List Nd, nsum pr (l ++ m) = nsum pr l + nsum pr m
  | [], m => by simp [nsum]
  | x :: l, m => by rw [List.cons_append, nsum, nsum, nsum_app pr l m]; omega
theorem nsum_take {pr : ByteArray → Int} {l : List Nd} {k : Nat} {x : Nd} (h : l[k]? = some x) : nsum pr (l.take (k + 1)) = nsum pr (l.take k) + x.qty * pr x.code := by
  rw [List.take_add_one, h, nsum_app]
  show _ + (x.qty * pr x.code + 0) = _
  omega
theorem nsum_nonneg {pr : ByteArray → Int} (hp : ∀ s, 0 ≤ pr s) : ∀ (l : List Nd), (∀ x ∈ l, 0 ≤ x.qty) → 0 ≤ nsum pr l
  | [], _ => Int.le_refl _
  | x :: l, h => by
    have h1 := nsum_nonneg hp l fun y hy => h y (by simp [hy])
    have h2 := Int.mul_nonneg (h x (by simp)) (hp x.code)
    rw [nsum]; omega
theorem nsum_part {pr : ByteArray → Int} (hp : ∀ s, 0 ≤ pr s) {l : List Nd} (h : ∀ x ∈ l, 0 ≤ x.qty) (k : Nat) : 0 ≤ nsum pr (l.take k) ∧ nsum pr (l.take k) ≤ nsum pr l := by
  have h1 := nsum_nonneg hp (l.take k) fun x hx => h x (List.mem_of_mem_take hx)
  have h2 := nsum_nonneg hp (l.drop k) fun x hx => h x (List.mem_of_mem_drop hx)
  have h3 := nsum_app pr (l.take k) (l.drop k)
  rw [List.take_append_drop] at h3
  omega
theorem price_pos (prices : List Nd) (s : ByteArray) : 0 ≤ priceIn prices s := by
  unfold priceIn
  cases hf : prices.find? (priceHit s) with
  | none => simp
  | some x =>
    have := List.find?_some hf
    simp only [priceHit, Bool.and_eq_true, inB_true] at this
    simp only
    omega

/-! ### levels of the lines in force -/
theorem lvFix_of {es : List Eg} {n : Nat} (hin : egIn es n) {L : Nat → Int} (h0 : ∀ i, 0 ≤ L i) (hn : ∀ i, i < n → L i < n) (hL : ∀ e ∈ es, L e.p < L e.q) : lvFix es n = true := by
  cases hf : lvFix es n with
  | true => rfl
  | false =>
    exfalso
    have hs : ∀ r : Nat, (r : Int) ≤ dot (lvAt (lvIter es n r)) (fun _ => 1) n := by
      have dle : ∀ (o o' : Nat → Int) (m : Nat), (∀ j, j < m → o j ≤ o' j) → dot o (fun _ => 1) m ≤ dot o' (fun _ => 1) m := by
        intro o o' m
        induction m with
        | zero => exact fun _ => Int.le_refl _
        | succ m ih =>
          intro h
          have := ih fun j hj => h j (by omega)
          have := h m (by omega)
          simp only [dot, Int.mul_one]; omega
      have dlt : ∀ (o o' : Nat → Int) (m k : Nat), k < m → o k < o' k → (∀ j, j < m → o j ≤ o' j) → dot o (fun _ => 1) m < dot o' (fun _ => 1) m := by
        intro o o' m
        induction m with
        | zero => intro k h; omega
        | succ m ih =>
          intro k hk hlt h
          simp only [dot, Int.mul_one]
          by_cases e : k = m
          · subst e
            have := dle o o' k fun j hj => h j (by omega)
            omega
          · have := ih k (by omega) hlt fun j hj => h j (by omega)
            have := h m (by omega)
            omega
      intro r
      induction r with
      | zero =>
        have : ∀ m, 0 ≤ dot (lvAt (lvIter es n 0)) (fun _ => 1) m := by
          intro m
          induction m with
          | zero => exact Int.le_refl _
          | succ m ih => have := lvIter_nonneg hin 0 m; simp only [dot, Int.mul_one]; omega
        exact this n
      | succ r ih =>
        have hne := lvFix_no (r := r) hin hf
        have hl := lvIter_len es n r
        have hm := lvRound_mono (es := es) (out := lvIter es n r) (by rw [hl]; exact hin)
        obtain ⟨k, hk, hkn⟩ : ∃ k, k < n ∧ lvAt (lvIter es n r) k ≠ lvAt (lvRound es (lvIter es n r)) k := by
          apply Classical.byContradiction
          intro hc
          apply hne
          refine List.ext_getElem (by rw [lvRound_len]) fun i h1 h2 => ?_
          have hi : i < n := by rw [lvRound_len, hl] at h1; exact h1
          have : lvAt (lvIter es n r) i = lvAt (lvRound es (lvIter es n r)) i := Classical.byContradiction fun h => hc ⟨i, hi, h⟩
          unfold lvAt at this
          rw [List.getD_eq_getElem?_getD, List.getD_eq_getElem?_getD, List.getElem?_eq_getElem h1, List.getElem?_eq_getElem h2] at this
          exact this.symm
        have := dlt (lvAt (lvIter es n r)) (lvAt (lvIter es n (r + 1))) n k hk (by have := hm k; show lvAt (lvIter es n r) k < lvAt (lvRound es (lvIter es n r)) k; omega) (fun j _ => hm j)
        omega
    have hb : ∀ r m : Nat, m ≤ n → dot (lvAt (lvIter es n r)) (fun _ => 1) m ≤ m * n := by
      intro r m
      induction m with
      | zero => intro _; simp [dot]
      | succ m ih =>
        intro h
        have h1 := ih (by omega)
        have h2 := lvIter_below hin h0 hL r m
        have h3 := hn m (by omega)
        simp only [dot, Int.mul_one]
        rw [Int.natCast_add, Int.add_mul]
        omega
    have h1 := hs (n * n + 1)
    have h2 := hb (n * n + 1) n (Nat.le_refl _)
    rw [Int.natCast_add, Int.natCast_mul] at h1
    omega
theorem force_lvOk {cat : List It} {l : List Bl} (h : isBills cat l = true) (day : Int) (ch : List Pk) : lvOk cat (force l day ch) = true := by
  have hin := egs_in (bills_in h)
  have hst := lvRound_still (by rw [lvs_len]; exact hin) (bills_still h)
  have hsm := fun i (hi : i < cat.length) => lv_small (r := cat.length) hin (bills_still h) hi
  refine lvFix_of (L := lvAt (lvs cat l)) (egs_in fun x hx => bills_in h x (force_sub hx)) (fun i => lvIter_nonneg hin _ i) (fun i hi => (hsm i hi).2) fun e he => ?_
  obtain ⟨x, hx, rfl⟩ := List.mem_map.1 he
  exact hst _ (List.mem_map.2 ⟨x, force_sub hx, rfl⟩)
end Go.Proofs.Ytnhkpdaogclfjaa
