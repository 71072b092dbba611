/- Recalls and suspects: the plain words. No condition. -/
import Derived.Test.YtaldlinekipblaaReachP
import Derived.Test.YtaldlinekipblaaSShipment
namespace Go.Proofs.Ytaldlinekipblaa

def shipOk (x : Sh) : Bool := isCode x.batch && isCode x.cust
def areShips (l : List Sh) : Bool := l.all shipOk && decide (l.length ≤ 24)
theorem ships_bad {l : List Sh} {k : Nat} {x : Sh} (h : l[k]? = some x) (hb : shipOk x = false) : areShips l = false := by
  have : l.all shipOk = false := List.all_eq_false.2 ⟨x, List.mem_of_getElem? h, by simp [hb]⟩
  simp [areShips, this]
theorem ships_good {l : List Sh} (h : ∀ (k : Nat) (x : Sh), l[k]? = some x → shipOk x = true) : areShips l = decide (l.length ≤ 24) := by
  have a : l.all shipOk = true := List.all_eq_true.2 fun u hu => by
    obtain ⟨k, hk, rfl⟩ := List.getElem_of_mem hu
    exact h k _ (List.getElem?_eq_getElem hk)
  simp [areShips, a]
theorem ships_len {l : List Sh} (h : areShips l = true) : l.length ≤ 24 := by
  simp only [areShips, Bool.and_eq_true, decide_eq_true_eq] at h; exact h.2
def custs (R : List ByteArray) (l : List Sh) : List ByteArray := (l.filter fun s => hasB s.batch R).map (·.cust)
theorem custs_zero (R : List ByteArray) (l : List Sh) : custs R (l.take 0) = [] := by simp [custs]
theorem custs_in {R : List ByteArray} {l : List Sh} {k : Nat} {x : Sh} (h : l[k]? = some x) (hx : x.batch ∈ R) : custs R (l.take (k + 1)) = custs R (l.take k) ++ [x.cust] := by
  obtain ⟨hk, rfl⟩ := List.getElem?_eq_some_iff.1 h
  unfold custs
  rw [List.take_succ_eq_append_getElem hk, List.filter_append, List.map_append, List.filter_cons, if_pos (hasB_iff.2 hx)]
  rfl
theorem custs_out {R : List ByteArray} {l : List Sh} {k : Nat} {x : Sh} (h : l[k]? = some x) (hx : x.batch ∉ R) : custs R (l.take (k + 1)) = custs R (l.take k) := by
  obtain ⟨hk, rfl⟩ := List.getElem?_eq_some_iff.1 h
  unfold custs
  rw [List.take_succ_eq_append_getElem hk, List.filter_append, List.map_append, List.filter_cons, if_neg (by rw [hasB_no.2 hx]; simp)]
  simp
theorem custs_len (R : List ByteArray) (l : List Sh) : (custs R l).length ≤ l.length := by
  unfold custs; rw [List.length_map]; exact List.length_filter_le _ _
theorem custs_mem {R : List ByteArray} {l : List Sh} {c : ByteArray} : c ∈ custs R l ↔ ∃ s ∈ l, s.batch ∈ R ∧ s.cust = c := by
  simp only [custs, List.mem_map, List.mem_filter, hasB_iff]
  exact ⟨fun ⟨s, ⟨h1, h2⟩, h3⟩ => ⟨s, h1, h2, h3⟩, fun ⟨s, h1, h2, h3⟩ => ⟨s, ⟨h1, h2⟩, h3⟩⟩
def recallL (us : List Us) (sh : List Sh) (b : ByteArray) : List ByteArray := if areUses us && areShips sh then sortO (custs (reachL false us b) sh) else []
theorem recall_len (us : List Us) (sh : List Sh) (b : ByteArray) : (recallL us sh b).length ≤ sh.length := by
  unfold recallL; split
  · exact Nat.le_trans (sortO_len _) (custs_len _ _)
  · simp
theorem recall_mem {us : List Us} {sh : List Sh} {b c : ByteArray} (h : c ∈ recallL us sh b) : ∃ s ∈ sh, s.batch ∈ reachL false us b ∧ s.cust = c := by
  unfold recallL at h; split at h
  · exact custs_mem.1 (sortO_mem.1 h)
  · simp at h

/-! ### suspects -/
def candI (us : List Us) (sh : List Sh) : List ByteArray := us.flatMap (fun u => [u.frm, u.into]) ++ sh.map (·.batch)
def candS (us : List Us) (sh : List Sh) : List ByteArray := sh.flatMap fun s => s.batch :: restL true us s.batch
def suspect (us : List Us) (sh : List Sh) (cs : List ByteArray) (b : ByteArray) : Bool := cs.all fun c => hasB c (recallL us sh b)
def suspOk (us : List Us) (sh : List Sh) (cs : List ByteArray) : Bool := areUses us && (areShips sh && (decide (1 ≤ cs.length) && decide (cs.length ≤ 24)))
def suspL (us : List Us) (sh : List Sh) (cs : List ByteArray) : List ByteArray := if suspOk us sh cs then (sortO (candI us sh)).filter (suspect us sh cs) else []
theorem susp_cand {us : List Us} {sh : List Sh} {cs : List ByteArray} {b : ByteArray} (h0 : 1 ≤ cs.length) (h : suspect us sh cs b = true) : b ∈ candS us sh := by
  cases cs with
  | nil => simp at h0
  | cons c cs =>
    simp only [suspect, List.all_cons, Bool.and_eq_true] at h
    obtain ⟨s, hs, hr, _⟩ := recall_mem (hasB_iff.1 h.1)
    have := reach_turn.1 hr
    rw [reach_rest] at this
    exact List.mem_flatMap.2 ⟨s, hs, this⟩
theorem cand_sub {us : List Us} {sh : List Sh} {b : ByteArray} (h : b ∈ candS us sh) : b ∈ candI us sh := by
  obtain ⟨s, hs, hb⟩ := List.mem_flatMap.1 h
  unfold candI
  rw [List.mem_append]
  rw [← reach_rest] at hb
  rcases reach_sub hb with e | e
  · subst e; exact .inr (List.mem_map.2 ⟨s, hs, rfl⟩)
  · obtain ⟨u, hu, e⟩ := List.mem_map.1 e
    exact .inl (List.mem_flatMap.2 ⟨u, hu, by simp [← e, uB]⟩)
theorem rising_filter {l : List ByteArray} (h : Rising id l) (p : ByteArray → Bool) : Rising id (l.filter p) := List.Pairwise.filter p h
theorem susp_same {us : List Us} {sh : List Sh} {cs : List ByteArray} (h0 : 1 ≤ cs.length) : (sortO (candS us sh)).filter (suspect us sh cs) = (sortO (candI us sh)).filter (suspect us sh cs) :=
  rising_ext (rising_filter (sortO_rising _) _) (rising_filter (sortO_rising _) _) fun b => by
    rw [List.mem_filter, List.mem_filter, sortO_mem, sortO_mem]
    exact ⟨fun ⟨h1, h2⟩ => ⟨cand_sub h1, h2⟩, fun ⟨_, h2⟩ => ⟨susp_cand h0 h2, h2⟩⟩
theorem two_len (us : List Us) : (us.flatMap fun u => [u.frm, u.into]).length = us.length * 2 := by
  induction us with
  | nil => rfl
  | cons u us ih => rw [List.flatMap_cons, List.length_append, ih]; simp; omega
theorem susp_len (us : List Us) (sh : List Sh) (cs : List ByteArray) : (suspL us sh cs).length ≤ 100 := by
  unfold suspL; split
  · rename_i h
    simp only [suspOk, Bool.and_eq_true] at h
    have h1 := (uses_true h.1).2
    have h2 := ships_len h.2.1
    have h3 := List.length_filter_le (suspect us sh cs) (sortO (candI us sh))
    have h4 := sortO_len (candI us sh)
    have h5 : (candI us sh).length = us.length * 2 + sh.length := by
      simp only [candI, List.length_append, List.length_map, two_len]
    omega
  · simp
end Go.Proofs.Ytaldlinekipblaa
