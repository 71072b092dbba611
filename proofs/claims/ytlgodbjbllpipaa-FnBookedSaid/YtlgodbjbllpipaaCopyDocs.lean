/- The walks of copyDocuments and l35Copy: a copy of documents, whole. No condition. -/
import Derived.Test.YtlgodbjbllpipaaDocO
import Derived.Deep.RegionHeld3
import Derived.Deep.AppendLies
namespace Go.Proofs.Ytlgodbjbllpipaa
open Go.ChangeShapes Go.WideShapes Go.ChangeAt Go.RowKit

section
variable {P : Program} (w : World)
/-- append, whatever the source, at a step of a region that draws. -/
theorem step_app {ops : Array Oper} {o : Oper} {a : Act} {K : Act → World → Prop} {Q : Exit → Act → World → Prop} {E : Prop} (hgd : o.guard = none) (s x : Operand) (t : TypeId)
    (ho : o.op = .call { callee := .builtin .append, args := #[s, x], argTypes := #[t, t] })
    (base : Nat) (e : TypeId) (i : TypeInfo) (z : Value) (size bytes : Nat) (ht : P.underlying t = some (.slice e)) (hi : P.info? e = some i) (hz : i.zero = some z)
    (hsize : i.size = size) (hby : i.bytes = bytes) (hzs : z.cells.size = size) (hsz : 0 < size)
    (v : Value) (n : Nat) (xs : List Value) (hs : a.eval s = v) (hown : w.ownsRow base e size v n xs)
    (A : Option Addr) (m c : Nat) (news : List Value) (hx : a.eval x = .slice A m c) (hr : RS w size A m news) (h1 : ∀ u ∈ news, u.oneCell' = true)
    (h63 : n + m ≤ maxLen) (hbytes : (n + m) * bytes ≤ 140737488355328) (hbase : base ≤ w.heap.size)
    (h : ∀ A' c' w', w'.ownsRow base e size (.slice A' (n + m) c') (n + m) (xs ++ news) → w.grownBy w' v.ownBlock → ((Value.slice A' (n + m) c').ownBlock = v.ownBlock ∨ (Value.slice A' (n + m) c').ownBlock = some w.heap.size) → Below base w w' →
      K (a.put o.dst (.slice A' (n + m) c')) w') :
    if Region.wanted o (yielded ops a.tmps) = true then Oper.wp P o a w K Q else E := by
  have hw : Region.wanted o (yielded ops a.tmps) = true := by simp [Region.wanted, hgd]
  rw [if_pos hw]
  exact wp_app w s x t ho base e i z size bytes ht hi hz hsize hby hzs hsz v n xs hs hown A m c news hx hr h1 h63 hbytes hbase h
end
theorem RS.drew {w : World} {size n : Nat} {A : Option Addr} {xs : List Value} (h : RS w size A n xs) : RS w.drew size A n xs := ⟨h.len, h.at_⟩
theorem take_snoc {α : Type} {l : List α} {k : Nat} {x : α} (h : l[k]? = some x) : l.take (k + 1) = l.take k ++ [x] := by rw [List.take_add_one, h]; rfl

set_option maxRecDepth 100000 in
set_option maxHeartbeats 4000000 in
theorem implCopyDocs (A : Option Addr) (n c : Nat) (ds : List Doc) (w : World) (hr : DocsR w A n ds) (hn : n ≤ 1048600) (hle : ∀ d ∈ ds, d.ents.length ≤ 1048600) :
    Calls Try.prog 83 #[.slice A n c] w fun e w' => ∃ A' c', e = .returned (.slice A' n c') ∧ DocsO w' w.heap.size w'.heap.size (.slice A' n c') n ds [] ∧ Below w.heap.size w w' := by
  have hl := Lib.hid hr.len
  have LE := Lib.hid hle; clear hle
  obtain ⟨i0, hi, hz0, hz1, hz2⟩ := info_parts enInfo
  obtain ⟨j0, hi', hz0', hz1', hz2'⟩ := info_parts docInfo
  go_enter Try.func83, Try.ntmps83
  go_wp2
  go_loopw [3, 9] (fun v i wr => ∃ k : Nat, k ≤ n ∧ i = .int .i64 k ∧ Below w.heap.size w wr ∧ ∃ A' c', v = .slice A' k c' ∧ DocsO wr w.heap.size wr.heap.size (.slice A' k c') k (ds.take k) []) (fun _ i _ => n - (intOf i).toNat)
  case atStart => exact ⟨0, Nat.zero_le _, rfl, below_box w _, _, _, rfl, DocsO.empty (own_empty w _ _ _ (Nat.le_refl _))⟩
  case round =>
    obtain ⟨k, hk, rfl, hb, A', c', rfl, hd⟩ := hrel
    by_cases hlt : k < n
    · obtain ⟨g, off, rfl, ⟨num, day, ents⟩, eA, en, ec, hx, h0, h1, h2, hre⟩ := (hr.below hb).docAt hlt
      have hle := LE.out _ (List.mem_of_getElem? hx)
      have el := hre.flatLen enCell_len (by omega)
      simp only at h0 h1 h2 hre hle el
      have en1 : en ≤ 1048600 := by omega
      have TS := Lib.hid (take_snoc hx)
      obtain ⟨xs, o0, T⟩ := hd.outer hb.size
      have TT := Lib.hid T
      clear hx el hd T
      have bx := fun j v (h : (#[Value.int .i64 num, .int .i64 day, .slice eA en ec] : Array Value)[j]? = some v) => box_cell (w := wr) (t := 64) h
      have i1 : (0 : Int) ≤ k := by omega
      have i2 : (k : Int) < n := by omega
      have zb := hb.size
      have ag : (Value.slice A' k c').ownBlock ≠ some wr.heap.size := fun he => by have := (o0.lt _ he).2; omega
      have E0 := own_empty (wr.alloc (Obj.cells #[.int .i64 num, .int .i64 day, .slice eA en ec] 64)) wr.heap.size 66 2 (by simp)
      rw [World.size_alloc] at E0
      go_wp2_with fail
      go_region_held3 (fun w' => w'.cell? ⟨wr.heap.size, 0, none⟩ = some (.int .i64 num) ∧ w'.cell? ⟨wr.heap.size, 1, none⟩ = some (.int .i64 day) ∧ w'.cell? ⟨wr.heap.size, 2, none⟩ = some (.slice eA en ec))
        (first
          | go_keep
          | (go_split_ands
             refine ⟨?_, ?_, ?_⟩
             · (rw [g6.cell_far _ (by simp; omega) (by simp [Value.ownBlock])]; go_keep)
             · (rw [g6.cell_far _ (by simp; omega) (by simp [Value.ownBlock])]; go_keep)
             · (rw [g6.cell_far _ (by simp; omega) (by simp [Value.ownBlock])]; go_keep))
          | (go_split_ands
             refine ⟨?_, ?_, ?_⟩
             · (rw [g7.cell_far _ (by have := b6.size; simp at this ⊢; omega) (Ne.symm ag)]; go_keep)
             · (rw [g7.cell_far _ (by have := b6.size; simp at this ⊢; omega) (Ne.symm ag)]; go_keep)
             · (rw [g7.cell_far _ (by have := b6.size; simp at this ⊢; omega) (Ne.symm ag)]; go_keep)))
        (first
          | (refine step_app _ (by rfl) _ _ _ (by rfl) wr.heap.size 66 i0 _ 2 24 Try.underlying62 hi hz0 hz1 hz2 rfl (by omega) _ 0 [] (by rfl) E0.drew
              eA en ec (ents.flatMap enCell) (by rfl) (((hre.alloc _).alloc _).drew) (flat_one_cell enCell_one _) (by unfold maxLen; omega) (by omega) (by simp; omega) ?_; intro A6 c6 w6 o6 g6 at6 b6)
          | (refine step_app _ (by rfl) _ _ _ (by rfl) w.heap.size 64 j0 _ 3 40 Try.underlying29 hi' hz0' hz1' hz2' rfl (by omega) (.slice A' k c') k xs (by rfl) ((own_grown ((o0.alloc _).alloc _).drew g6 (by have := o0.lt; cases hv : (Value.slice A' k c').ownBlock with | none => exact .inl rfl | some q => exact .inr (by simp [Value.ownBlock]; have := (o0.lt q hv).2; omega))).alloc _)
              _ 1 1 [.int .i64 num, .int .i64 day, .slice A6 en c6] (by rfl) (RS_new (by simp)) (by simp [Value.oneCell']) (by unfold maxLen; omega) (by omega) (by have := b6.size; simp at this ⊢; omega) ?_; intro A7 c7 w7 o7 g7 at7 b7))
      rw [Nat.zero_add, List.nil_append] at o6
      rw [Nat.zero_add] at at6
      have hb6 : Below wr.heap.size wr w6 := ((((Below.refl _ _).alloc (Nat.le_refl _) _).alloc (by simp) _).drew).trans b6
      have dO := TT.out (w6.alloc (Obj.cells #[.int .i64 num, .int .i64 day, .slice A6 en c6] 64)) w7 num day A6 en c6 ents (.slice A7 (k + 1) c7) (hb6.alloc hb6.size _) (o6.alloc _) g7 o7 (by
        rcases at7 with h | h
        · exact .inl h
        · exact .inr fun q hq => by rw [h] at hq; injection hq with hq; omega)
      rw [← TS.out] at dO
      have B7 := below_app hb (hb6.alloc hb6.size (Obj.cells #[.int .i64 num, .int .i64 day, .slice A6 en c6] 64)) hb.size
      have B8 := B7.trans b7
      clear o6 g6 at6 b6 hb6 o7 g7 at7 b7 B7 TT o0 E0 bx h0 h1 h2
      go_wp2_with fail
      go_roundw
      case rel => exact ⟨k + 1, by omega, by go_num, B8, A7, c7, rfl, dO⟩
      case measure => simp [intOf]; omega
    · obtain rfl : n = k := by omega
      rw [List.take_of_length_le (by rw [hl.out]; exact Nat.le_refl _)] at hd
      go_wp2
      go_ret
      exact ⟨_, _, rfl, hd, hb⟩
set_option maxRecDepth 100000 in
set_option maxHeartbeats 4000000 in
theorem specCopyDocs (A : Option Addr) (n c : Nat) (ds : List Doc) (w : World) (hr : DocsR w A n ds) (hn : n ≤ 1048600) (hle : ∀ d ∈ ds, d.ents.length ≤ 1048600) :
    Calls Try.prog 78 #[.slice A n c] w fun e w' => ∃ A' c', e = .returned (.slice A' n c') ∧ DocsO w' w.heap.size w'.heap.size (.slice A' n c') n ds [] ∧ Below w.heap.size w w' := by
  have hl := Lib.hid hr.len
  have LE := Lib.hid hle; clear hle
  obtain ⟨i0, hi, hz0, hz1, hz2⟩ := info_parts enInfo
  obtain ⟨j0, hi', hz0', hz1', hz2'⟩ := info_parts docInfo
  go_enter Try.func78, Try.ntmps78
  go_wp2
  go_loopw [3, 4] (fun v i wr => ∃ k : Nat, k ≤ n ∧ i = .int .i64 k ∧ Below w.heap.size w wr ∧ ∃ A' c', v = .slice A' k c' ∧ DocsO wr w.heap.size wr.heap.size (.slice A' k c') k (ds.take k) []) (fun _ i _ => n - (intOf i).toNat)
  case atStart => exact ⟨0, Nat.zero_le _, rfl, below_box w _, _, _, rfl, DocsO.empty (own_empty w _ _ _ (Nat.le_refl _))⟩
  case round =>
    obtain ⟨k, hk, rfl, hb, A', c', rfl, hd⟩ := hrel
    by_cases hlt : k < n
    · obtain ⟨g, off, rfl, ⟨num, day, ents⟩, eA, en, ec, hx, h0w, h1w, h2w, hre⟩ := hr.docAt hlt
      have hle := LE.out _ (List.mem_of_getElem? hx)
      have el := hre.flatLen enCell_len (by omega)
      simp only at h0w h1w h2w hre hle el
      have h0 := cell_keep hb h0w; have h1 := cell_keep hb h1w; have h2 := cell_keep hb h2w
      have gl : g < w.heap.size := World.block_lt_of_cell? w _ h0w
      have hre := hre.below hb
      have en1 : en ≤ 1048600 := by omega
      have TS := Lib.hid (take_snoc hx)
      obtain ⟨xs, o0, T⟩ := hd.outer hb.size
      have TT := Lib.hid T
      clear hx el hd T h0w h1w h2w
      have i1 : (0 : Int) ≤ k := by omega
      have i2 : (k : Int) < n := by omega
      have zb := hb.size
      have ag : (Value.slice A' k c').ownBlock ≠ some g := fun he => by have := (o0.lt _ he).1; omega
      have E0 := own_empty wr wr.heap.size 66 2 (Nat.le_refl _)
      have ge : g < wr.heap.size := by omega
      have gn : g ≠ wr.heap.size := by omega
      go_wp2_with fail
      go_region_held3 (fun w' => w'.cell? ⟨g, off + k * 3, none⟩ = some (.int .i64 num) ∧ w'.cell? ⟨g, off + k * 3 + 1, none⟩ = some (.int .i64 day) ∧ w'.cell? ⟨g, off + k * 3 + 2, none⟩ = some (.slice eA en ec))
        (first
          | go_keep
          | (go_split_ands
             refine ⟨?_, ?_, ?_⟩
             · (rw [g6.cell_far _ (by simp; omega) (by simpa [Value.ownBlock] using gn)]; go_keep)
             · (rw [g6.cell_far _ (by simp; omega) (by simpa [Value.ownBlock] using gn)]; go_keep)
             · (rw [g6.cell_far _ (by simp; omega) (by simpa [Value.ownBlock] using gn)]; go_keep))
          | (go_split_ands
             refine ⟨?_, ?_, ?_⟩
             · (rw [g7.cell_far _ (by have := b6.size; simp at this ⊢; omega) (Ne.symm ag)]; go_keep)
             · (rw [g7.cell_far _ (by have := b6.size; simp at this ⊢; omega) (Ne.symm ag)]; go_keep)
             · (rw [g7.cell_far _ (by have := b6.size; simp at this ⊢; omega) (Ne.symm ag)]; go_keep)))
        (first
          | (refine step_app _ (by rfl) _ _ _ (by rfl) wr.heap.size 66 i0 _ 2 24 Try.underlying62 hi hz0 hz1 hz2 rfl (by omega) _ 0 [] (by rfl) E0.drew
              eA en ec (ents.flatMap enCell) (by rfl) ((hre.alloc _).drew) (flat_one_cell enCell_one _) (by unfold maxLen; omega) (by omega) (by simp) ?_; intro A6 c6 w6 o6 g6 at6 b6)
          | (refine step_app _ (by rfl) _ _ _ (by rfl) w.heap.size 64 j0 _ 3 40 Try.underlying29 hi' hz0' hz1' hz2' rfl (by omega) (.slice A' k c') k xs (by rfl) ((own_grown (o0.alloc _).drew g6 (by have := o0.lt; cases hv : (Value.slice A' k c').ownBlock with | none => exact .inl rfl | some q => exact .inr (by have := (o0.lt q hv).2; simp [Value.ownBlock]; omega))).alloc _)
              _ 1 1 [.int .i64 num, .int .i64 day, .slice A6 en c6] (by rfl) (RS_new (by simp)) (by simp [Value.oneCell']) (by unfold maxLen; omega) (by omega) (by have := b6.size; simp at this ⊢; omega) ?_; intro A7 c7 w7 o7 g7 at7 b7))
      rw [Nat.zero_add, List.nil_append] at o6
      rw [Nat.zero_add] at at6
      have hb6 : Below wr.heap.size wr w6 := (((Below.refl _ _).alloc (Nat.le_refl _) _).drew).trans b6
      have dO := TT.out (w6.alloc (Obj.cells #[.int .i64 num, .int .i64 day, .slice A6 en c6] 64)) w7 num day A6 en c6 ents (.slice A7 (k + 1) c7) (hb6.alloc hb6.size _) (o6.alloc _) g7 o7 (by
        rcases at7 with h | h
        · exact .inl h
        · exact .inr fun q hq => by rw [h] at hq; injection hq with hq; omega)
      rw [← TS.out] at dO
      have B7 := below_app hb (hb6.alloc hb6.size (Obj.cells #[.int .i64 num, .int .i64 day, .slice A6 en c6] 64)) hb.size
      have B8 := B7.trans b7
      clear o6 g6 at6 b6 hb6 o7 g7 at7 b7 B7 TT o0 E0 h0 h1 h2
      go_wp2_with fail
      go_roundw
      case rel => exact ⟨k + 1, by omega, by go_num, B8, A7, c7, rfl, dO⟩
      case measure => simp [intOf]; omega
    · obtain rfl : n = k := by omega
      rw [List.take_of_length_le (by rw [hl.out]; exact Nat.le_refl _)] at hd
      go_wp2
      go_ret
      exact ⟨_, _, rfl, hd, hb⟩
end Go.Proofs.Ytlgodbjbllpipaa
