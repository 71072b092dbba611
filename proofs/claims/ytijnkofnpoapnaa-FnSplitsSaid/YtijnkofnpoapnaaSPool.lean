/- Pool: a flat struct, and slices of it: the plain words and the walks of the laws' helpers. -/
import Derived.Test.YtijnkofnpoapnaaFlat
import Derived.Laws.Rows
namespace Go.Proofs.Ytijnkofnpoapnaa
open Go.ChangeShapes Go.WideShapes Go.ChangeAt Go.RowKit Go.Deep

structure Po where
  q : Int
  v : Int
abbrev poAgg (x : Po) : Value := .agg #[.int .i64 x.q, .int .i64 x.v]
def poCell (x : Po) : List Value := [.int .i64 x.q, .int .i64 x.v]
def poOk (x : Po) : Prop := i64 x.q ∧ i64 x.v
theorem poCell_len : ∀ y, (poCell y).length = 2 := fun _ => rfl
theorem poCell_one : ∀ x, ∀ u ∈ poCell x, u.oneCell' = true := by
  intro x u hu
  simp only [poCell, List.mem_cons, List.not_mem_nil, or_false] at hu
  rcases hu with rfl | rfl <;> rfl
theorem RS.poAt {w : World} {A : Option Addr} {n k : Nat} {l : List Po} (h : RS w 2 A n (l.flatMap poCell)) (hk : k < n) :
    ∃ g off, A = some ⟨g, off, none⟩ ∧ ∃ y, l[k]? = some y ∧ w.cell? ⟨g, off + k * 2, none⟩ = some (.int .i64 y.q) ∧ w.cell? ⟨g, off + k * 2 + 1, none⟩ = some (.int .i64 y.v) := by
  obtain ⟨g, off, e, y, hy, hc⟩ := h.flatAt poCell_len (by omega) hk
  exact ⟨g, off, e, y, hy, hc 0 (by omega), hc 1 (by omega)⟩
theorem poInfo : (Try.prog.info? 27).map (fun i => (i.zero, i.size, i.bytes)) = some (some (.agg #[.int .i64 0, .int .i64 0]), 2, 16) := by kernel_rfl
def poSz (_x : Po) : Int := 0
theorem poSz_nonneg (x : Po) : 0 ≤ poSz x := by unfold poSz; omega
theorem eqPool_true (x : Po) (w : World) : Calls Try.prog 60 #[poAgg x, poAgg x] w fun e' w' => e' = .returned (.bool true) ∧ Below w.heap.size w w' := by
  obtain ⟨q, v⟩ := x
  go_enter Try.func60, Try.ntmps60
  go_wp2
  go_ret
  exact ⟨rfl, by go_grown⟩
set_option maxHeartbeats 1000000 in
theorem eqPoolS_true (A : Option Addr) (n c : Nat) (l : List Po) (A' : Option Addr) (n' c' : Nat) (l' : List Po) (w : World) (hr : RS w 2 A n (l.flatMap poCell)) (hr' : RS w 2 A' n' (l'.flatMap poCell)) (hn : n ≤ 9223372036854775807) (hn' : n' ≤ 9223372036854775807) (heq : l = l') :
    Calls Try.prog 18 #[.slice A n c, .slice A' n' c'] w fun e w' => e = .returned (.bool true) ∧ Below w.heap.size w w' := by
  have hl := hr.flatLen poCell_len (by omega)
  have hl' := hr'.flatLen poCell_len (by omega)
  obtain rfl : n = n' := by rw [← hl, ← hl', heq]
  have HE := Lib.hid heq; clear heq hl hl'
  go_enter Try.func18, Try.ntmps18
  go_wp2
  go_loopw [5] (fun i wr => ∃ k : Nat, k ≤ n ∧ i = .int .i64 k ∧ Below w.heap.size w wr) (fun i _ => n - (intOf i).toNat)
  case atStart => exact ⟨0, Nat.zero_le _, rfl, Below.refl _ _⟩
  case round =>
    obtain ⟨k, hk, rfl, hb⟩ := hrel
    by_cases hlt : k < n
    · obtain ⟨g, off, rfl, x, hx, hpo0, hpo1⟩ := (hr.below hb).poAt hlt
      obtain ⟨g', off', rfl, x', hx', kpo0, kpo1⟩ := (hr'.below hb).poAt hlt
      rw [HE.out, hx'] at hx
      obtain rfl : x' = x := by simpa using hx
      clear hx hx'
      obtain ⟨q, v⟩ := x'
      have i1 : (0 : Int) ≤ k := by omega
      have i2 : (k : Int) < n := by omega
      have a0 := cell_wext hpo0; have b0 := cell_wext kpo0; have a1 := cell_wext hpo1; have b1 := cell_wext kpo1
      go_wp2
      refine wp_region_ext (by kernel_rfl) (by kernel_rfl) ?_
      repeat (go_big_quiet_step ((go_at_call 60; exact ext_call (eqPool_true ⟨q, v⟩ _))))
      refine wpQuiet_nil ?_
      intro _ hw'; obtain ⟨nq, hw''⟩ := hw'; subst hw''
      go_wp2
      go_roundw
      case rel => exact ⟨k + 1, by omega, by go_num, below_app hb (below_wext _ _) hb.size⟩
      case measure => simp [intOf]; omega
    · go_wp2
      have : k = n := by omega
      subst this
      go_ret
      exact ⟨rfl, hb⟩
def poMarks (k0 : Int) (N : Nat) : List Value := marksF (fun j => [false, false].getD j false) 2 k0 N
theorem poMarks_0 (k0 : Int) (k : Nat) : poMarks k0 (k * 2 + 1) = poMarks k0 (k * 2) ++ [.int .i64 (k0 + k * 2)] := by
  unfold poMarks
  rw [marksF_succ]
  have e1 : (k * 2) % 2 = 0 := by omega
  have e2 : k0 + ((k * 2 : Nat) : Int) = k0 + k * 2 := by simp; try omega
  rw [e1, e2]; rfl
theorem poMarks_at0 (k0 : Int) (n k : Nat) (h : k < n) : (poMarks k0 (n * 2))[k * 2 + 0]? = some (.int .i64 (k0 + k * 2)) := by
  unfold poMarks
  rw [marksF_at _ _ _ (by omega)]
  have e1 : (k * 2 + 0) % 2 = 0 := by omega
  have e2 : k0 + ((k * 2 + 0 : Nat) : Int) = k0 + k * 2 := by simp; try omega
  rw [e1, e2]; rfl
theorem poMarks_1 (k0 : Int) (k : Nat) : poMarks k0 (k * 2 + 1 + 1) = poMarks k0 (k * 2 + 1) ++ [.int .i64 (k0 + k * 2 + 1)] := by
  unfold poMarks
  rw [marksF_succ]
  have e1 : (k * 2 + 1) % 2 = 1 := by omega
  have e2 : k0 + ((k * 2 + 1 : Nat) : Int) = k0 + k * 2 + 1 := by simp; try omega
  rw [e1, e2]; rfl
theorem poMarks_at1 (k0 : Int) (n k : Nat) (h : k < n) : (poMarks k0 (n * 2))[k * 2 + 1]? = some (.int .i64 (k0 + k * 2 + 1)) := by
  unfold poMarks
  rw [marksF_at _ _ _ (by omega)]
  have e1 : (k * 2 + 1) % 2 = 1 := by omega
  have e2 : k0 + ((k * 2 + 1 : Nat) : Int) = k0 + k * 2 + 1 := by simp; try omega
  rw [e1, e2]; rfl
set_option maxHeartbeats 2000000 in
theorem markPoolS_any (base : Nat) (A : Option Addr) (n c : Nat) (xs : List Value) (k0 : Int) (w : World) (ho : w.ownsRow base 27 2 (.slice A n c) n xs) (hn : n ≤ 1048600) (h0 : 1 ≤ k0) (h1 : k0 ≤ 100000000) :
    Calls Try.prog 21 #[.slice A n c, .int .i64 k0] w fun e w' => e = .returned (.int .i64 (k0 + n * 2)) ∧ w'.ownsRow base 27 2 (.slice A n c) n (poMarks k0 (n * 2)) ∧ w.grownBy w' (Value.slice A n c).ownBlock := by
  go_enter Try.func21, Try.ntmps21
  go_wp2
  go_loopw [1, 5] (fun kk i wr => ∃ k : Nat, k ≤ n ∧ i = .int .i64 k ∧ kk = .int .i64 (k0 + k * 2) ∧ w.grownBy wr (Value.slice A n c).ownBlock ∧ ∃ xs, wr.ownsRow base 27 2 (.slice A n c) n xs ∧ Hid (xs.take (k * 2) = poMarks k0 (k * 2))) (fun _ i _ => n - (intOf i).toNat)
  case atStart => exact ⟨0, Nat.zero_le _, rfl, by simp, World.grownBy.refl _ _, xs, ho, by simp [Hid, poMarks, marksF]⟩
  case round =>
    obtain ⟨k, hk, rfl, rfl, hg, xs, hown, htk⟩ := hrel
    by_cases hlt : k < n
    · obtain ⟨g, rfl, hgb, hgs, hc, hf⟩ := own_addr hown (by omega)
      clear hc hf
      have i1 : (0 : Int) ≤ k := by omega
      have i2 : (k : Int) < n := by omega
      obtain ⟨d0, hd0⟩ := own_cells hown (j := k * 2) (by omega)
      obtain ⟨d1, hd1⟩ := own_cells hown (j := k * 2 + 1) (by omega)
      have hf0 := fun j => hown.frozenAt j
      obtain ⟨y0, o0, t0⟩ := own_fill (.int .i64 (k0 + k * 2)) hown htk.out rfl (by omega)
      have f0 := (hown.stored (k * 2) (.int .i64 (k0 + k * 2))).2
      have G0 := hg.trans f0
      obtain ⟨y1, o1, t1⟩ := own_fill (.int .i64 (k0 + k * 2 + 1)) o0 t0 rfl (by omega)
      have f1 := (o0.stored (k * 2 + 1) (.int .i64 (k0 + k * 2 + 1))).2
      have G1 := G0.trans f1
      have T0 := Lib.hid t0; clear t0; have T1 := Lib.hid t1; clear t1
      go_wp2_with fail
      clear hd0 hd1 hf0
      go_roundw
      case rel =>
        refine ⟨k + 1, by omega, by go_num, by go_num, G1, y1, o1, ?_⟩
        have e : (k + 1) * 2 = k * 2 + 1 + 1 := by omega
        show y1.take ((k + 1) * 2) = poMarks k0 ((k + 1) * 2)
        rw [e]
        have tt := T1.out
        refine Eq.trans ?_ (tt.trans ?_)
        · rfl
        · rw [poMarks_1, poMarks_0]
      case measure => simp [intOf]; omega
    · go_wp2
      have : k = n := by omega
      subst this
      go_ret
      refine ⟨rfl, ?_, hg⟩
      rw [take_all htk.out (own_len hown)] at hown
      exact hown
set_option maxHeartbeats 2000000 in
theorem heldPoolS_any (A : Option Addr) (n c : Nat) (k0 : Int) (w : World) (hr : RS w 2 A n (poMarks k0 (n * 2))) (hn : n ≤ 1048600) (h0 : 1 ≤ k0) (h1 : k0 ≤ 100000000) :
    Calls Try.prog 22 #[.slice A n c, .int .i64 k0] w fun e w' => e = .returned (.int .i64 (k0 + n * 2)) ∧ Below w.heap.size w w' := by
  go_enter Try.func22, Try.ntmps22
  go_wp2
  go_loopw [1, 5] (fun kk i wr => ∃ k : Nat, k ≤ n ∧ i = .int .i64 k ∧ kk = .int .i64 (k0 + k * 2) ∧ Below w.heap.size w wr) (fun _ i _ => n - (intOf i).toNat)
  case atStart => exact ⟨0, Nat.zero_le _, rfl, by simp, Below.refl _ _⟩
  case round =>
    obtain ⟨k, hk, rfl, rfl, hb⟩ := hrel
    by_cases hlt : k < n
    · have i1 : (0 : Int) ≤ k := by omega
      have i2 : (k : Int) < n := by omega
      obtain ⟨g, off, rfl, c0⟩ := (hr.below hb).cell (i := 0) hlt (poMarks_at0 k0 n k hlt)
      obtain ⟨g', off', hA, c1⟩ := (hr.below hb).cell (i := 1) hlt (poMarks_at1 k0 n k hlt)
      obtain ⟨rfl, rfl⟩ : g = g' ∧ off = off' := by simpa using hA
      clear hA
      simp only [Nat.add_zero] at c0
      go_wp2_with fail
      go_roundw
      case rel => exact ⟨k + 1, by omega, by go_num, by go_num, hb⟩
      case measure => simp [intOf]; omega
    · go_wp2
      have : k = n := by omega
      subst this
      go_ret
      exact ⟨rfl, hb⟩
set_option maxRecDepth 100000 in
theorem poOpen : FlatAs Try.prog 23 poCell poOk := by
  intro H enc w base spare held n cs x h
  obtain ⟨hlen, m, hf⟩ := open_fields Try.underlying23 (by kernel_rfl) (by kernel_rfl) h
  obtain ⟨v0, y0, h0, t0⟩ := hf 0 _ rfl
  obtain ⟨v1, y1, h1, t1⟩ := hf 1 _ rfl
  obtain ⟨a0, e0, _, w0⟩ := DataW.trod_int Try.underlying3 t0
  obtain ⟨a1, e1, _, w1⟩ := DataW.trod_int Try.underlying3 t1
  simp only [List.cons.injEq, and_true] at e0 e1
  subst e0 e1
  match cs, hlen with
  | [_, _], _ =>
    simp at h0 h1
    exact ⟨⟨a0, a1⟩, by simp [poCell, h0, h1], i64_of w0, i64_of w1⟩
end Go.Proofs.Ytijnkofnpoapnaa
