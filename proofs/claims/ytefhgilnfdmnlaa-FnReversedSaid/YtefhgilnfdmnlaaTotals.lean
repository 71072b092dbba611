/- The walk of totals: a map of sums, its keys sorted. No condition. -/
import Derived.Test.YtefhgilnfdmnlaaTrialP
import Derived.Test.YtefhgilnfdmnlaaSort
import Derived.Maps.OwnSet
import Derived.Maps.OwnOps
namespace Go.Proofs.Ytefhgilnfdmnlaa
open Go.ChangeShapes Go.WideShapes Go.ChangeAt Go.RowKit Go.Maps Go.ChangeMaps Go.WideMaps

def keyS (s : ByteArray) : Lit := .string s.data.toList
theorem keyS_ne {a b : ByteArray} (h : a ≠ b) : keyS a ≠ keyS b := fun e => by
  unfold keyS at e
  injection e with e
  exact h (text_inj (by rw [ByteArray.toList_eq, ByteArray.toList_eq]; exact e))
theorem keyS_lit (a : ByteArray) : WideAt.IsKeyLit (keyS a) := trivial
theorem strLaw : Keyed Try.prog 9 := string_keyed Try.underlying9
theorem zeroInt (w : World) : (zeroValue 3).run Try.prog w = .ok (.int .i64 0) w := by kernel_rfl
theorem strInfo : (Try.prog.info? 9).map (fun i => (i.zero, i.size, i.bytes)) = some (some (.string ⟨#[]⟩), 1, 16) := by kernel_rfl
def isIn (accs : List ByteArray) (s : ByteArray) : Bool := accs.any fun a => decide (a = s)
theorem isIn_iff {accs : List ByteArray} {s : ByteArray} : isIn accs s = true ↔ s ∈ accs := by simp [isIn]
theorem isIn_no {accs : List ByteArray} {s : ByteArray} (h : s ∉ accs) : isIn accs s = false := by
  cases e : isIn accs s
  · rfl
  · exact absurd (isIn_iff.1 e) h
/-- What the map and the list of its keys are after k entries. -/
structure MapRel (D : DataW Unit) (l : List En) (k : Nat) (accs : List ByteArray) : Prop where
  isMap : Maps.IsMap D
  at_ : ∀ s : ByteArray, D.atKey (keyS s) (.lit (.int .i64 0)) = .lit (.int .i64 (sumAcc (l.take k) s))
  has : ∀ s : ByteArray, Maps.has D (keyS s) = isIn accs s
  nodup : accs.Nodup
  mem : ∀ s, s ∈ accs ↔ ∃ x ∈ l.take k, x.acc = s
  len : accs.length ≤ k
theorem rel_zero (l : List En) : MapRel (.map []) l 0 [] :=
  ⟨isMap_empty, fun s => by simp [sumAcc, sumF, DataW.atKey], fun s => by simp [Maps.has, isIn], by simp, by simp, by simp⟩
theorem sumAcc_take {l : List En} {k : Nat} {x : En} (h : l[k]? = some x) (s : ByteArray) : sumAcc (l.take (k + 1)) s = sumAcc (l.take k) s + entHit s x := by
  rw [List.take_add_one, h]; exact sumAcc_snoc _ _ _
def addKey (accs : List ByteArray) (s : ByteArray) : List ByteArray := if isIn accs s = true then accs else accs ++ [s]
theorem rel_put {D : DataW Unit} {l : List En} {k : Nat} {accs : List ByteArray} {x : En} (h : MapRel D l k accs) (hx : l[k]? = some x) :
    MapRel (D.put (keyS x.acc) (.lit (.int .i64 (sumAcc (l.take k) x.acc + x.amt)))) l (k + 1) (addKey accs x.acc) := by
  have hm : ∀ s, s ∈ addKey accs x.acc ↔ s ∈ accs ∨ s = x.acc := by
    intro s
    unfold addKey
    split
    · rename_i hi
      exact ⟨.inl, fun h => h.elim id (fun e => e ▸ isIn_iff.1 hi)⟩
    · simp
  refine ⟨h.isMap.put _ _, fun s => ?_, fun s => ?_, ?_, fun s => ?_, ?_⟩
  · by_cases e : s = x.acc
    · subst e
      rw [atKey_put_same h.isMap (keyS_lit _), sumAcc_take hx, entHit, if_pos rfl]
    · rw [atKey_put_other (keyS_ne e), h.at_ s, sumAcc_take hx, entHit, if_neg (Ne.symm e)]; simp
  · by_cases e : s = x.acc
    · subst e
      rw [has_put_same h.isMap (keyS_lit _)]
      exact (isIn_iff.2 ((hm _).2 (.inr rfl))).symm
    · rw [has_put_other (keyS_ne e), h.has s, Bool.eq_iff_iff, isIn_iff, isIn_iff, hm]
      exact ⟨.inl, fun h => h.resolve_right e⟩
  · unfold addKey
    split
    · exact h.nodup
    · rename_i hi
      rw [List.nodup_append]
      exact ⟨h.nodup, by simp, fun a ha b hb => by obtain rfl := List.mem_singleton.1 hb; exact fun e => hi (isIn_iff.2 (e ▸ ha))⟩
  · rw [hm, h.mem, List.take_add_one, hx]
    constructor
    · rintro (⟨y, hy, e⟩ | e)
      · exact ⟨y, List.mem_append.2 (.inl hy), e⟩
      · exact ⟨x, List.mem_append.2 (.inr (by simp)), e.symm⟩
    · rintro ⟨y, hy, e⟩
      rcases List.mem_append.1 hy with hy | hy
      · exact .inl ⟨y, hy, e⟩
      · simp at hy; subst hy; exact .inr e.symm
  · have := h.len
    unfold addKey
    split
    · omega
    · simp; omega
def outE (l : List En) (ks : List ByteArray) : List En := (ks.filter (fun a => sumAcc l a != 0)).map fun a => ⟨a, sumAcc l a⟩
theorem outE_take {l : List En} {ks : List ByteArray} {k : Nat} {a : ByteArray} (h : ks[k]? = some a) : outE l (ks.take (k + 1)) = outE l (ks.take k) ++ (if sumAcc l a = 0 then [] else [⟨a, sumAcc l a⟩]) := by
  unfold outE
  rw [List.take_add_one, h, List.filter_append, List.map_append]
  congr 1
  by_cases e : sumAcc l a = 0 <;> simp [e]
theorem outE_len (l : List En) (ks : List ByteArray) : (outE l ks).length ≤ ks.length := by
  unfold outE; rw [List.length_map]; exact List.length_filter_le _ _
theorem sumAcc_zero {l : List En} {s : ByteArray} (h : ∀ x ∈ l, x.acc ≠ s) : sumAcc l s = 0 := by
  unfold sumAcc sumF
  rw [List.take_length]
  have : ∀ m : List En, (∀ x ∈ m, x.acc ≠ s) → (m.map (entHit s)).sum = 0 := by
    intro m
    induction m with
    | nil => simp
    | cons y m ih =>
      intro hm
      rw [List.map_cons, List.sum_cons, ih fun z hz => hm z (by simp [hz]), entHit, if_neg (hm y (by simp))]; rfl
  exact this l h
theorem outE_canon {l : List En} {accs : List ByteArray} (hn : accs.Nodup) (hm : ∀ s, s ∈ accs ↔ ∃ x ∈ l, x.acc = s) : Canon (outE l (sortT accs)) (sumAcc l) := by
  refine ⟨?_, fun x hx => ?_, fun s hs => ?_⟩
  · unfold outE Rising
    rw [List.pairwise_map]
    exact (sortT_rising hn).filter _
  · obtain ⟨a, ha, rfl⟩ := List.mem_map.1 hx
    have := (List.mem_filter.1 ha).2
    exact ⟨by simpa using this, rfl⟩
  · have : s ∈ accs := by
      rw [hm]
      rcases Classical.em (∃ x ∈ l, x.acc = s) with h | h
      · exact h
      · exact absurd (sumAcc_zero fun x hx e => h ⟨x, hx, e⟩) hs
    exact ⟨⟨s, sumAcc l s⟩, List.mem_map.2 ⟨s, List.mem_filter.2 ⟨sortT_mem.2 this, by simpa using hs⟩, rfl⟩, rfl⟩
theorem outE_trial {l : List En} {accs : List ByteArray} (hn : accs.Nodup) (hm : ∀ s, s ∈ accs ↔ ∃ x ∈ l, x.acc = s) : outE l (sortT accs) = trialE l := canon_unique (outE_canon hn hm) (trialE_canon l)
theorem sumAcc_take_bd {l : List En} (h : ∀ x ∈ l, -1000000000000 ≤ x.amt ∧ x.amt ≤ 1000000000000) (k : Nat) (hk : k ≤ l.length) (s : ByteArray) : -(k * 1000000000000) ≤ sumAcc (l.take k) s ∧ sumAcc (l.take k) s ≤ k * 1000000000000 := by
  have := sumAcc_bd (l := l.take k) (M := 1000000000000) (by omega) (fun x hx => h x (List.mem_of_mem_take hx)) s
  rw [List.length_take, Nat.min_eq_left hk] at this
  exact this
section
variable {w w' : World} {k n b : Nat} {D : DataW Unit}
theorem map_below {R : Value → Option (DataW Unit × List MemPlace)} (h : w.ownsMap Try.prog k R b n D) (hb : Below w.heap.size w w') : w'.ownsMap Try.prog k R b n D := h.kept (grown_of_below none hb) (by simp)
end
theorem RS.strAt {w : World} {A : Option Addr} {n k : Nat} {l : List ByteArray} (h : RS w 1 A n (l.map Value.string)) (hk : k < n) : ∃ g off, A = some ⟨g, off, none⟩ ∧ ∃ s, l[k]? = some s ∧ w.cell? ⟨g, off + k, none⟩ = some (.string s) := by
  obtain ⟨g, off, e, hc⟩ := h.at_ (by omega)
  have hl : l.length = n := by have := h.len; simpa using this
  have hx : l[k]? = some l[k] := List.getElem?_eq_getElem (by omega)
  exact ⟨g, off, e, l[k], hx, hc k _ (by rw [List.getElem?_map, hx]; rfl)⟩
abbrev ownsSums (w : World) (b n : Nat) (D : DataW Unit) : Prop := w.ownsMap Try.prog 9 (plainElem Try.prog 3) b n D

set_option maxRecDepth 100000 in
set_option maxHeartbeats 4000000 in
theorem implTotals (A : Option Addr) (n c : Nat) (l : List En) (w : World) (hr : RS w 2 A n (l.flatMap enCell)) (hn : n ≤ 1048600) (hok : ∀ x ∈ l, x.acc.size ≤ 9223372036854775807) (hb : ∀ x ∈ l, -1000000000000 ≤ x.amt ∧ x.amt ≤ 1000000000000) :
    Calls Try.prog 63 #[.slice A n c] w fun e w' => ∃ A' c', e = .returned (.slice A' (trialE l).length c') ∧ w'.ownsRow w.heap.size 47 2 (.slice A' (trialE l).length c') (trialE l).length ((trialE l).flatMap enCell) ∧ Below w.heap.size w w' := by
  have hl := Lib.hid (hr.flatLen enCell_len (by omega))
  have OK := Lib.hid hok; clear hok
  have AB := Lib.hid hb
  have SB := Lib.hid (fun k (hk : k ≤ n) => sumAcc_take_bd hb k (by rw [hl.out]; exact hk)); clear hb
  obtain ⟨i0, hi, hz0, hz1, hz2⟩ := info_parts enInfo
  obtain ⟨j0, hi', hz0', hz1', hz2'⟩ := info_parts strInfo
  have hmm := @run_makeMap Try.prog
  have M0 : ownsSums (w.alloc (.map #[] 0)) w.heap.size 0 (.map []) := World.ownsMap_made w Try.prog _ _
  go_enter Try.func63, Try.ntmps63
  go_wp2
  go_loopw [4, 16] (fun v i wr => ∃ (k : Nat) (accs : List ByteArray) (D : DataW Unit) (A' : Option Addr) (c' : Nat), k ≤ n ∧ i = .int .i64 k ∧ v = .slice A' accs.length c' ∧ wr.ownsRow (w.heap.size + 1) 9 1 (.slice A' accs.length c') accs.length (accs.map Value.string) ∧ ownsSums wr w.heap.size k D ∧ Hid (MapRel D l k accs) ∧ Below w.heap.size w wr ∧ w.heap.size + 1 ≤ wr.heap.size) (fun _ i _ => n - (intOf i).toNat)
  case atStart =>
    refine ⟨0, [], .map [], _, _, Nat.zero_le _, rfl, rfl, by have := own_empty (w.alloc (.map #[] 0)) (w.heap.size + 1) 9 1 (by simp); simpa using this, M0.alloc _, rel_zero l, ((Below.refl _ _).alloc (Nat.le_refl _) _).alloc (by simp) _, by simp⟩
  case round =>
    obtain ⟨k, accs, D, A', c', hk, rfl, rfl, oa, om, rel, hb, hw1⟩ := hrel
    by_cases hlt : k < n
    · obtain ⟨g, off, rfl, ⟨acc, amt⟩, hx, h0, h1⟩ := (hr.below hb).enAt hlt
      have hsz := OK.out _ (List.mem_of_getElem? hx)
      have ham := AB.out _ (List.mem_of_getElem? hx)
      simp only at h0 h1 hsz ham
      have HX := Lib.hid hx; clear hx
      have RP := Lib.hid (rel_put rel.out HX.out)
      have hkey : keyOf Try.prog 9 (.string acc) = some (keyS acc) := keyOf_string_mk Try.underlying9 (by unfold maxLen; omega)
      have sb := SB.out k (by omega) acc
      have i1 : (0 : Int) ≤ k := by omega
      have i2 : (k : Int) < n := by omega
      have al := rel.out.len
      by_cases hin : acc ∈ accs
      · have HH : Maps.has D (keyS acc) = true := by rw [rel.out.has]; exact isIn_iff.2 hin
        go_wp2_with (first
          | (at_lookup; refine wpList_lookup_own_ok_int _ rfl _ _ 91 rfl 9 3 .i64 strLaw Try.underlying91 Try.underlying3 (zeroInt _) w.heap.size k D rfl (by first | exact om.alloc _ | exact (om.alloc _).alloc _) _ _ rfl hkey ?_; intro c1 hat1 hwc1; rw [HH]; clear hat1 hwc1)
          | (at_lookup; refine wpList_lookup_own_int _ rfl _ _ 91 rfl 9 3 .i64 strLaw Try.underlying91 Try.underlying3 (zeroInt _) w.heap.size k D rfl (by first | exact om.alloc _ | exact (om.alloc _).alloc _) _ _ rfl hkey ?_; intro c2 hat2 hwc2
             obtain rfl : c2 = sumAcc (l.take k) acc := by
               have := rel.out.at_ acc
               rw [this] at hat2; injection hat2 with hat2; injection hat2 with _ hat2; exact hat2.symm
             clear hat2 hwc2)
          | (at_mapUpdate; refine wpList_mapUpdate_own _ rfl _ _ _ 91 rfl 9 3 strLaw Try.underlying91 _ w.heap.size k D rfl (by first | exact om.alloc _ | exact (om.alloc _).alloc _) (by unfold maxLen; omega) _ _ _ rfl rfl hkey _ [] (plainElem_int Try.underlying3 (WalkArith.wf_i64 (by omega))) ?_; intro w1 om1 g1))
        have R1 : MapRel (D.put (keyS acc) (.lit (.int .i64 (sumAcc (l.take k) acc + amt)))) l (k + 1) accs := by
          have := RP.out; rwa [addKey, if_pos (isIn_iff.2 hin)] at this
        have B1 := (hb.alloc hb.size (Obj.cells #[.string acc, .int .i64 amt] 47)).grown g1 (by have := hb.size; simp; omega) (fun j hj => by injection hj with hj; omega)
        have oa1 := own_grown (oa.alloc (Obj.cells #[.string acc, .int .i64 amt] 47)) g1 (by
          cases hv : (Value.slice A' accs.length c').ownBlock with
          | none => exact .inl rfl
          | some q => exact .inr fun e => by have := (oa.lt q hv).1; injection e with e; omega)
        have z1 := g1.size
        rw [World.size_alloc] at z1
        clear g1 om oa hb HH
        go_roundw
        case rel => exact ⟨k + 1, accs, _, A', c', by omega, by go_num, rfl, oa1, om1, R1, B1, by omega⟩
        case measure => simp [intOf]; omega
      · have HH : Maps.has D (keyS acc) = false := by rw [rel.out.has]; exact isIn_no hin
        have zz := hb.size
        go_wp2_with (first
          | (at_lookup; refine wpList_lookup_own_ok_int _ rfl _ _ 91 rfl 9 3 .i64 strLaw Try.underlying91 Try.underlying3 (zeroInt _) w.heap.size k D rfl (by first | exact om.alloc _ | exact (om.alloc _).alloc _) _ _ rfl hkey ?_; intro c1 hat1 hwc1; rw [HH]; clear hat1 hwc1)
          | (at_builtin; refine wpList_app _ rfl _ _ _ rfl (w.heap.size + 1) 9 j0 _ 1 16 Try.underlying60 hi' hz0' hz1' hz2' rfl (by omega) _ accs.length (accs.map Value.string) rfl ((oa.alloc _).alloc _) _ 1 1 [.string acc] rfl (RS_new2 (by simp)) (by simp [Value.oneCell']) (by unfold maxLen; omega) (by omega) (by simp; omega) ?_; intro A5 c5 w5 oa5 g5 at5 b5
             have om5 := ((om.alloc (Obj.cells #[.string acc, .int .i64 amt] 47)).alloc (Obj.cells #[.string acc] 9)).kept g5 (fun e => by have := (oa.lt _ e.symm).1; omega)
             have x0 : w5.cell? ⟨wr.heap.size, 0, none⟩ = some (.string acc) := by
               rw [g5.cell_far _ (by simp; omega) (fun e => Nat.lt_irrefl _ (oa.lt _ e.symm).2)]; exact cell_alloc (box_cell rfl) _
             have x1 : w5.cell? ⟨wr.heap.size, 1, none⟩ = some (.int .i64 amt) := by
               rw [g5.cell_far _ (by simp; omega) (fun e => Nat.lt_irrefl _ (oa.lt _ e.symm).2)]; exact cell_alloc (box_cell rfl) _
             have bq5 := (((hb.alloc hb.size (Obj.cells #[.string acc, .int .i64 amt] 47)).alloc (by simp; omega) (Obj.cells #[.string acc] 9)).trans (b5.mono (by omega)))
             have z5 := b5.size
             rw [World.size_alloc, World.size_alloc] at z5
             clear g5 at5 b5)
          | (at_lookup; refine wpList_lookup_own_int _ rfl _ _ 91 rfl 9 3 .i64 strLaw Try.underlying91 Try.underlying3 (zeroInt _) w.heap.size k D rfl om5 _ _ rfl hkey ?_; intro c2 hat2 hwc2
             obtain rfl : c2 = sumAcc (l.take k) acc := by
               have := rel.out.at_ acc
               rw [this] at hat2; injection hat2 with hat2; injection hat2 with _ hat2; exact hat2.symm
             clear hat2 hwc2)
          | (at_mapUpdate; refine wpList_mapUpdate_own _ rfl _ _ _ 91 rfl 9 3 strLaw Try.underlying91 _ w.heap.size k D rfl om5 (by unfold maxLen; omega) _ _ _ rfl rfl hkey _ [] (plainElem_int Try.underlying3 (WalkArith.wf_i64 (by omega))) ?_; intro w1 om1 g1))
        have R1 : MapRel (D.put (keyS acc) (.lit (.int .i64 (sumAcc (l.take k) acc + amt)))) l (k + 1) (accs ++ [acc]) := by
          have := RP.out; rwa [addKey, if_neg (by rw [isIn_no hin]; simp)] at this
        have B1 := bq5.grown g1 (by omega) (fun j hj => by injection hj with hj; omega)
        have oa1 := own_grown oa5 g1 (by
          cases hv : (Value.slice A5 (accs.length + 1) c5).ownBlock with
          | none => exact .inl rfl
          | some q => exact .inr fun e => by have := (oa5.lt q hv).1; injection e with e; omega)
        have oa1' : w1.ownsRow (w.heap.size + 1) 9 1 (.slice A5 (accs ++ [acc]).length c5) (accs ++ [acc]).length ((accs ++ [acc]).map Value.string) := by
          rw [List.length_append, List.map_append]; exact oa1
        have z1 := g1.size
        have LN : (accs ++ [acc]).length = accs.length + 1 := by simp
        clear g1 om oa hb HH om5 oa5 bq5 oa1 x0 x1
        go_roundw
        case rel => exact ⟨k + 1, accs ++ [acc], _, A5, c5, by omega, by go_num, by rw [LN], oa1', om1, R1, B1, by omega⟩
        case measure => simp [intOf]; omega
    · obtain rfl : n = k := by omega
      have RL := Lib.hid (show MapRel D l l.length accs by rw [hl.out]; exact rel.out)
      have al := rel.out.len
      have zz := hb.size
      go_wp2_with fail
      refine (sort_own oa (by omega)).mono ?_; rintro e w2 ⟨rfl, os, gs⟩
      have om2 := om.kept gs (fun e => by have := (oa.lt _ e.symm).1; omega)
      have B2 := hb.grown gs zz (fun j hj => by have := (oa.lt j hj).1; omega)
      have z2 := gs.size
      clear om oa hb gs rel
      have hr2 := RS.of_own os
      have KZ := Lib.hid (show ∀ s ∈ sortT accs, s.size ≤ 9223372036854775807 from fun s hs => by
        obtain ⟨x, hx, e⟩ := (RL.out.mem s).1 (sortT_mem.1 hs)
        rw [← e]; exact OK.out x (List.mem_of_mem_take hx))
      have KA := Lib.hid (show ∀ s, D.atKey (keyS s) (.lit (.int .i64 0)) = .lit (.int .i64 (sumAcc l s)) from fun s => by
        have := RL.out.at_ s; rwa [List.take_length] at this)
      have ML := Lib.hid (show (sortT accs).length = accs.length from sortT_len accs)
      obtain ⟨m, hm⟩ : ∃ m, accs.length = m := ⟨_, rfl⟩
      obtain ⟨ks, hks⟩ : ∃ ks, sortT accs = ks := ⟨_, rfl⟩
      have KS := Lib.hid hks
      rw [hks] at hr2 KZ ML os
      rw [hm] at hr2 al os ML
      have HM := Lib.hid hm
      clear hks os
      rw [hm]
      clear hm
      go_wp2
      go_loopw [9, 47] (fun v i wr => ∃ (k : Nat) (A4 : Option Addr) (c4 : Nat), k ≤ m ∧ i = .int .i64 k ∧ v = .slice A4 (outE l (ks.take k)).length c4 ∧ wr.ownsRow w2.heap.size 47 2 (.slice A4 (outE l (ks.take k)).length c4) (outE l (ks.take k)).length ((outE l (ks.take k)).flatMap enCell) ∧ Below w2.heap.size w2 wr) (fun _ i _ => m - (intOf i).toNat)
      case atStart => exact ⟨0, _, _, Nat.zero_le _, rfl, rfl, own_empty w2 _ _ _ (Nat.le_refl _), below_box w2 _⟩
      case round =>
        obtain ⟨k, A4, c4, hk, rfl, rfl, oo, hb⟩ := hrel
        have om := map_below om2 hb
        by_cases hlt2 : k < m
        · obtain ⟨g, off, rfl, s, hx, hcw⟩ := hr2.strAt hlt2
          have hc := cell_keep hb hcw
          have hsz := KZ.out s (List.mem_of_getElem? hx)
          have OT := Lib.hid (outE_take (l := l) hx)
          have hka := KA.out s
          have hkey : keyOf Try.prog 9 (.string s) = some (keyS s) := keyOf_string_mk Try.underlying9 (by unfold maxLen; omega)
          have i1 : (0 : Int) ≤ k := by omega
          have i2 : (k : Int) < m := by omega
          have ol := outE_len l (ks.take k)
          rw [List.length_take] at ol
          have ol2 : (outE l (ks.take k)).length ≤ k := by omega
          clear hx hcw ol
          have zb := hb.size
          by_cases hs : sumAcc l s = 0
          · have OT2 := OT.out
            rw [if_pos hs, List.append_nil] at OT2
            have OT3 := Lib.hid OT2; clear OT2
            rw [hs] at hka
            go_wp2_with (at_lookup; refine wpList_lookup_own_int _ rfl _ _ 91 rfl 9 3 .i64 strLaw Try.underlying91 Try.underlying3 (zeroInt _) w.heap.size n D rfl om _ _ rfl hkey ?_; intro c2 hat2 hwc2
                         obtain rfl : c2 = 0 := by rw [hka] at hat2; injection hat2 with hat2; injection hat2 with _ hat2; exact hat2.symm
                         clear hat2 hwc2)
            go_roundw
            case rel => exact ⟨k + 1, A4, c4, by omega, by go_num, by rw [OT3.out], by rw [OT3.out]; exact oo, hb⟩
            case measure => simp [intOf]; omega
          · have OT2 := OT.out
            rw [if_neg hs] at OT2
            have OT3 := Lib.hid OT2; clear OT2
            obtain ⟨q, hq⟩ : ∃ q, sumAcc l s = q := ⟨_, rfl⟩
            rw [hq] at hs hka OT3
            clear hq OT
            go_wp2_with (first
              | (at_lookup; refine wpList_lookup_own_int _ rfl _ _ 91 rfl 9 3 .i64 strLaw Try.underlying91 Try.underlying3 (zeroInt _) w.heap.size n D rfl om _ _ rfl hkey ?_; intro c2 hat2 hwc2
                 obtain rfl : q = c2 := by rw [hka] at hat2; injection hat2 with hat2; injection hat2
                 clear hat2 hwc2)
              | (at_builtin; refine wpList_app _ rfl _ _ _ rfl w2.heap.size 47 i0 _ 2 24 Try.underlying25 hi hz0 hz1 hz2 rfl (by omega) _ (outE l (ks.take k)).length ((outE l (ks.take k)).flatMap enCell) rfl (oo.alloc _) _ 1 1 (enCell ⟨s, q⟩) rfl (RS_new (by simp)) (enCell_one _) (by unfold maxLen; omega) (by omega) (by simp; omega) ?_; intro A6 c6 w6 o6 g6 at6 b6))
            have o7 : w6.ownsRow w2.heap.size 47 2 (.slice A6 (outE l (ks.take (k + 1))).length c6) (outE l (ks.take (k + 1))).length ((outE l (ks.take (k + 1))).flatMap enCell) := by
              rw [OT3.out, List.length_append, flat_append, flat_one]; exact o6
            have LN := Lib.hid (show (outE l (ks.take (k + 1))).length = (outE l (ks.take k)).length + 1 by rw [OT3.out]; simp)
            have B6 := (hb.alloc zb (Obj.cells #[.string s, .int .i64 q] 47)).trans b6
            clear o6 g6 at6 b6 oo om
            go_roundw
            case rel => exact ⟨k + 1, A6, c6, by omega, by go_num, by rw [LN.out], o7, B6⟩
            case measure => simp [intOf]; omega
        · obtain rfl : m = k := by omega
          have E := Lib.hid (show outE l (ks.take m) = trialE l by
            rw [List.take_of_length_le (by rw [ML.out]; exact Nat.le_refl _), ← KS.out]
            exact outE_trial RL.out.nodup fun s => by rw [RL.out.mem, List.take_length])
          rw [E.out] at oo
          go_wp2
          go_ret
          refine ⟨A4, c4, by rw [← E.out]; rfl, own_base oo B2.size, below_app B2 hb B2.size⟩
end Go.Proofs.Ytefhgilnfdmnlaa
