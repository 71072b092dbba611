/- slices.Sort at a part of a slice of texts; slices.Compact; the texts in order, each once. No condition. -/
import Derived.Test.YtaldlinekipblaaSort
import Derived.Test.YtaldlinekipblaaReachP
import Derived.Test.YtaldlinekipblaaSStr
import Derived.Test.YtaldlinekipblaaOwns
namespace Go.Proofs.Ytaldlinekipblaa
open Go.ChangeShapes Go.WideShapes Go.ChangeAt Go.RowKit

theorem sortT_once {l : List ByteArray} (h : l.Nodup) : sortT l = sortO l :=
  rising_ext (sortT_rising h) (sortO_rising l) fun x => by rw [sortT_mem, sortO_mem]
theorem grown_put {w : World} {g off n : Nat} {os : Array Obj} (d : Array (List UInt8)) : w.grownBy (Sort.grow (Sort.putRow encStr (Sort.ahead w n) g off d) os) (some g) := by
  refine ⟨rfl, rfl, rfl, by simp, fun k hk hne => ?_⟩
  rw [Sort.heap_grow_old _ _ (by simpa using hk)]
  have : g ≠ k := fun e => hne (by rw [e])
  simp [Sort.putRow, Sort.mapBlock, Sort.ahead, Array.getElem?_modify, this]
set_option maxRecDepth 100000 in
theorem sort_part {n c g off : Nat} {l : List ByteArray} {w : World} (hr : RS w 1 (some ⟨g, off, none⟩) n (l.flatMap stCell)) (hf : ∀ j, w.frozen? ⟨g, j, none⟩ = false) (hg : g < w.heap.size) (hn : n ≤ 1048600) (hc : n ≤ c) :
    Calls Try.prog (sortRen.f 190) #[.slice (some ⟨g, off, none⟩) n c] w fun e w' => e = .returned (.tuple #[]) ∧ RS w' 1 (some ⟨g, off, none⟩) n ((sortT l).flatMap stCell) ∧ w.grownBy w' (some g) := by
  have hl : l.length = n := hr.flatLen stCell_len (by omega)
  rcases Nat.eq_zero_or_pos n with h0 | h0
  · subst h0
    obtain rfl : l = [] := List.eq_nil_of_length_eq_zero hl
    refine (Go.Proofs.Any.slices_Sort_string_none sortLays _ c w).mono ?_
    rintro e w' ⟨rfl, rfl⟩
    refine ⟨rfl, ?_, World.grownBy.refl _ _⟩
    have e : sortT ([] : List ByteArray) = [] := List.eq_nil_of_length_eq_zero (by rw [sortT_len]; rfl)
    rw [e]; exact RS.nil _ _ _
  · obtain ⟨g', off', he, hcell⟩ := hr.at_ h0
    have he := Option.some.inj he
    injection he with e1 e2
    subst e1 e2
    have hH : Sort.Holds encStr w g off (l.map (·.data.toList)).toArray := fun j hj => by
      have hj' : j < l.length := by simpa using hj
      refine ⟨?_, hf _⟩
      rw [hcell j (.string l[j]) (by rw [st_flat]; simp [hj'])]
      simp [encStr, hj']
    have hlm : (l.map (·.data.toList)).length = n := by simp [hl]
    have hcc := Go.Proofs.Any.slices_Sort_string sortLays g off c (l.map (·.data.toList)) w hH hg (by simp; omega)
    rw [hlm] at hcc
    refine hcc.mono ?_
    rintro e w' ⟨rfl, q, os, rfl⟩
    have hts : ((l.map (·.data.toList)).mergeSort leB).length = (l.map (·.data.toList)).length := List.length_mergeSort _
    refine ⟨rfl, ⟨?_, fun _ => ⟨g, off, rfl, fun j u hu => ?_⟩⟩, grown_put _⟩
    · rw [flat_len stCell stCell_len, sortT_len, hl]
    · have h2 : Sort.Holds encStr (Sort.grow (Sort.putRow encStr (Sort.ahead w q) g off ((l.map (·.data.toList)).mergeSort leB).toArray) os) g off ((l.map (·.data.toList)).mergeSort leB).toArray :=
        Sort.holds_grow encStr _ os g off _ (by simpa [Sort.putRow, Sort.mapBlock, Sort.ahead] using hg) (Sort.holds_putRow encStr _ g off _ _ (Sort.holds_ahead encStr w q g off _ hH) (by simp))
      rw [st_flat, sortT_cells] at hu
      have hj := (List.getElem?_eq_some_iff.1 hu).1
      simp only [List.length_map] at hj
      rw [List.getElem?_map, List.getElem?_eq_getElem hj] at hu
      rw [← hu]
      refine Eq.trans (h2 j (by simpa using hj)).1 ?_
      have hj3 : j < ((l.map (·.data.toList)).mergeSort leB).toArray.size := by simpa using hj
      rw [getElem!_pos _ j hj3]
      simp
/-- What slices.Compact leaves of texts in order. -/
theorem compact_rising {zs : List (List UInt8)} (h : zs.Pairwise (fun a b => leB a b = true)) : (Lib.compact zs).Pairwise (fun a b => Op.bytesLess a b = true) ∧ ∀ x, x ∈ Lib.compact zs ↔ x ∈ zs := by
  have key : ∀ m, m ≤ zs.length → (Lib.compactUpTo zs.toArray m).Pairwise (fun a b => Op.bytesLess a b = true) ∧ ∀ x, x ∈ Lib.compactUpTo zs.toArray m ↔ x ∈ zs.take m := by
    intro m
    induction m with
    | zero => intro _; simp [Lib.compactUpTo]
    | succ m ih =>
      intro hm
      obtain ⟨h1, h2⟩ := ih (by omega)
      have hx : zs.toArray[m]! = zs[m] := by simp [show m < zs.length by omega]
      rw [Lib.compactUpTo_succ, hx, List.take_succ_eq_append_getElem (by omega)]
      by_cases hk : Lib.keeps zs.toArray m = true
      · rw [if_pos hk]
        refine ⟨List.pairwise_append.2 ⟨h1, by simp, fun a ha b hb => ?_⟩, fun x => by rw [List.mem_append, List.mem_append, h2]⟩
        obtain rfl : b = zs[m] := by simpa using hb
        have ha' := (h2 a).1 ha
        obtain ⟨j, hj, rfl⟩ := List.getElem_of_mem ha'
        rw [List.length_take] at hj
        have hjm : j < m := by omega
        rw [List.getElem_take]
        have hpw := List.pairwise_iff_getElem.1 h
        have a1 := hpw j m (by omega) (by omega) hjm
        cases hb2 : Op.bytesLess zs[j] zs[m]
        · exfalso
          rw [leB_eq] at a1
          simp only [Bool.not_eq_true'] at a1
          have e := less_tri hb2 a1
          simp only [Lib.keeps, decide_eq_true_eq] at hk
          rcases hk with hk | hk
          · omega
          · apply hk
            have hp : zs.toArray[m - 1]! = zs[m - 1] := by simp [show m - 1 < zs.length by omega]
            rw [hx, hp]
            have b1 := hpw (m - 1) m (by omega) (by omega) (by omega)
            rw [leB_eq] at b1
            simp only [Bool.not_eq_true'] at b1
            rcases Nat.lt_or_ge j (m - 1) with hq | hq
            · have c1 := hpw j (m - 1) (by omega) (by omega) hq
              rw [e, leB_eq] at c1
              simp only [Bool.not_eq_true'] at c1
              exact less_tri b1 c1
            · have : j = m - 1 := by omega
              subst this
              exact e.symm
        · rfl
      · rw [if_neg hk, List.append_nil]
        refine ⟨h1, fun x => ?_⟩
        rw [h2, List.mem_append]
        refine ⟨.inl, fun hx' => ?_⟩
        rcases hx' with hx' | hx'
        · exact hx'
        · obtain rfl : x = zs[m] := by simpa using hx'
          simp only [Lib.keeps, decide_eq_true_eq] at hk
          have hk1 : ¬ m = 0 := fun e => hk (.inl e)
          have hk2 : zs.toArray[m]! = zs.toArray[m - 1]! := Classical.byContradiction fun e => hk (.inr e)
          have hp : zs.toArray[m - 1]! = zs[m - 1] := by simp [show m - 1 < zs.length by omega]
          rw [hx, hp] at hk2
          rw [hk2]
          exact List.mem_take_iff_getElem.2 ⟨m - 1, by omega, rfl⟩
  have := key zs.length (Nat.le_refl _)
  rw [List.take_length] at this
  exact this
theorem sort_le (l : List (List UInt8)) : (l.mergeSort leB).Pairwise (fun a b => leB a b = true) := List.pairwise_mergeSort (fun a b c h k => by
      rw [leB_eq] at h k ⊢
      simp only [Bool.not_eq_true'] at h k ⊢
      cases hc : Op.bytesLess c a
      · rfl
      · cases hb : Op.bytesLess b c
        · cases hb2 : Op.bytesLess c b
          · have := less_tri hb hb2; subst this; rw [h] at hc; cases hc
          · rw [k] at hb2; cases hb2
        · have := less_trans hb hc; rw [h] at this; cases this) (fun a b => by
      rw [leB_eq, leB_eq]
      cases h : Op.bytesLess b a
      · rfl
      · rw [less_asymm h]; rfl) l
theorem sortT_data (l : List ByteArray) : (sortT l).map (·.data.toList) = (l.map (·.data.toList)).mergeSort leB := by
  unfold sortT
  rw [List.map_map]
  exact (List.map_congr_left fun x _ => rfl).trans (List.map_id _)
theorem once_cells (l : List ByteArray) : (Lib.compact ((l.map (·.data.toList)).mergeSort leB)).map encStr = (sortO l).flatMap stCell := by
  have e : ((Lib.compact ((l.map (·.data.toList)).mergeSort leB)).map fun b : List UInt8 => (⟨b.toArray⟩ : ByteArray)) = sortO l := by
    obtain ⟨h1, h2⟩ := compact_rising (sort_le (l.map (·.data.toList)))
    refine rising_ext ?_ (sortO_rising l) fun x => ?_
    · unfold Rising
      rw [List.pairwise_map]
      refine h1.imp fun {a b} hab => ?_
      simp only [id, txtLess, ByteArray.toList_eq]
      exact hab
    · rw [sortO_mem, List.mem_map]
      constructor
      · rintro ⟨b, hb, rfl⟩
        have := (List.mergeSort_perm (l.map (·.data.toList)) leB).mem_iff.1 ((h2 b).1 hb)
        obtain ⟨y, hy, rfl⟩ := List.mem_map.1 this
        exact hy
      · intro hx
        exact ⟨x.data.toList, (h2 _).2 ((List.mergeSort_perm _ leB).mem_iff.2 (List.mem_map.2 ⟨x, hx, rfl⟩)), rfl⟩
  rw [← e, st_flat, List.map_map]
  rfl
set_option maxRecDepth 100000 in
theorem once_own {base n c : Nat} {A : Option Addr} {l : List ByteArray} {w : World} (ho : w.ownsRow base 9 1 (.slice A n c) n (l.flatMap stCell)) (hn : n ≤ 1048600) :
    Calls Try.prog (sortRen.f 194) #[.slice A n c] w fun e w' => (l = sortT l → ∃ c', e = .returned (.slice A (sortO l).length c') ∧ w'.ownsRow base 9 1 (.slice A (sortO l).length c') (sortO l).length ((sortO l).flatMap stCell)) ∧ w.grownBy w' (Value.slice A n c).ownBlock := by
  rw [st_flat] at ho
  have hl : l.length = n := by have := ho.1; simpa using this
  rcases Nat.eq_zero_or_pos n with h0 | h0
  · subst h0
    obtain rfl : l = [] := List.eq_nil_of_length_eq_zero hl
    refine (Go.Proofs.Any.slices_Compact_string_empty compLays A c w).mono ?_
    rintro e w' ⟨rfl, rfl⟩
    exact ⟨fun _ => ⟨c, rfl, by simpa [sortO] using ho⟩, World.grownBy.refl _ _⟩
  · obtain ⟨A', c', e, hc, hcm⟩ := own_slice ho
    rw [← Lib.map_encStr] at ho
    have hnn : (Value.slice A n c) ≠ .slice none 0 0 := fun e => by injection e with _ e2 _; omega
    obtain ⟨g, cap, hv, hb, hg, _, _, hlen, hH⟩ := Lib.holds_of_ownsRow ho hnn
    obtain ⟨rfl, rfl⟩ : A = some ⟨g, 0, none⟩ ∧ c = cap := by injection hv with h1 h2 h3; exact ⟨h1, h3⟩
    have hlm : (l.map (·.data.toList)).length = n := by simp [hl]
    have hcc := Go.Proofs.Any.slices_Compact_string compLays g 0 c (l.map (·.data.toList)) w hH (by omega) (by obtain ⟨_, c2, e2, h2, _⟩ := own_slice ho; injection e2 with _ _ e3; omega)
    rw [hlm] at hcc
    refine hcc.mono ?_
    rintro e w' ⟨rfl, q, rfl⟩
    refine ⟨fun hs => ?_, ?_⟩
    · have hcl : (Lib.compact (l.map (·.data.toList))).length ≤ n := by rw [← hlm]; exact Lib.compact_length_le _
      have h2 := Lib.ownsRow_putRow (q := q) (k := (Lib.compact (l.map (·.data.toList))).length) (ys := Lib.compact (l.map (·.data.toList)) ++ List.replicate (n - (Lib.compact (l.map (·.data.toList))).length) []) ho (by simp; omega) hcl
      rw [List.take_left] at h2
      have e1 : l.map (·.data.toList) = (l.map (·.data.toList)).mergeSort leB := by
        have := congrArg (List.map (·.data.toList)) hs
        rw [this, sortT_data]
        exact (List.mergeSort_of_pairwise (sort_le _)).symm
      have e2 := once_cells l
      rw [← e1] at e2
      have e3 : (Lib.compact (l.map (·.data.toList))).length = (sortO l).length := by
        have := congrArg List.length e2
        rw [List.length_map, flat_len stCell stCell_len] at this; omega
      refine ⟨c, by rw [e3], ?_⟩
      rw [← e3, ← e2]; exact h2
    · refine ⟨rfl, rfl, rfl, by simp [Sort.putRow, Sort.mapBlock, Sort.ahead], fun k hk hne => ?_⟩
      have : g ≠ k := fun e => hne (by rw [← e]; rfl)
      simp [Sort.putRow, Sort.mapBlock, Sort.ahead, Array.getElem?_modify, this]
set_option maxRecDepth 100000 in
set_option maxHeartbeats 2000000 in
theorem implOnce (A : Option Addr) (n c : Nat) (l : List ByteArray) (w : World) (hr : RS w 1 A n (l.flatMap stCell)) (hn : n ≤ 1048600) :
    Calls Try.prog 48 #[.slice A n c] w fun e w' => ∃ A' c', e = .returned (.slice A' (sortO l).length c') ∧ w'.ownsRow w.heap.size 9 1 (.slice A' (sortO l).length c') (sortO l).length ((sortO l).flatMap stCell) ∧ Below w.heap.size w w' := by
  obtain ⟨i0, hi, hz0, hz1, hz2⟩ := info_parts stInfo
  have E0 := own_empty w w.heap.size 9 1 (Nat.le_refl _)
  go_enter Try.func48, Try.ntmps48
  go_wp2_with (at_builtin; refine wpList_app _ rfl _ _ _ rfl w.heap.size 9 i0 _ 1 16 Try.underlying24 hi hz0 hz1 hz2 rfl (by omega) _ 0 _ rfl E0 _ n _ _ rfl (hr.alloc _) (flat_one_cell stCell_one _) (by unfold maxLen; omega) (by omega) (by simp) ?_; intro A5 c5 w5 o5 g5 at5 b5; rw [Nat.zero_add, List.nil_append] at o5; have B5 := (below_box w (Obj.cells #[] 9)).trans b5; clear g5 at5 b5)
  have o5' := o5
  rw [st_flat] at o5'
  have EQ := Lib.hid (show sortO (sortT l) = sortO l from sortO_same fun x => sortT_mem)
  have SS := Lib.hid (show sortT l = sortT (sortT l) by
    have e : sortT (sortT l) = (((sortT l).map (·.data.toList)).mergeSort leB).map fun b => ⟨b.toArray⟩ := rfl
    rw [e, sortT_data, List.mergeSort_of_pairwise (sort_le _)]; rfl)
  clear E0
  refine (sort_own o5' hn).mono ?_; rintro e w6 ⟨rfl, o6, g6⟩
  have B6 := B5.trans (below_of_grown o5 g6 (Nat.le_refl _) B5.size)
  rw [← st_flat] at o6
  clear g6 o5 o5'
  go_wp2_with fail
  refine (once_own o6 hn).mono ?_; rintro e w7 ⟨h7, g7⟩
  obtain ⟨c7, rfl, o7⟩ := h7 SS.out
  have B7 := B6.trans (below_of_grown o6 g7 (Nat.le_refl _) B6.size)
  clear g7 o6 h7
  go_wp2_with fail
  rw [EQ.out] at o7
  rw [EQ.out]
  go_ret
  exact ⟨_, _, rfl, o7, B7⟩
end Go.Proofs.Ytaldlinekipblaa
