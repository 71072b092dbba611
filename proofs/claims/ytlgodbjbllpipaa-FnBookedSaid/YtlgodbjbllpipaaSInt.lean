/- Slices of ints: the walks of the laws' helpers. -/
import Derived.Test.YtlgodbjbllpipaaFlat
import Derived.Test.YtlgodbjbllpipaaInts2
namespace Go.Proofs.Ytlgodbjbllpipaa
open Go.ChangeShapes Go.WideShapes Go.ChangeAt Go.RowKit Go.Deep

theorem take_ints {l : List Int} {k : Nat} {x : Int} (h : l[k]? = some x) : intCells (l.take (k + 1)) = intCells (l.take k) ++ [.int .i64 x] := by
  rw [List.take_add_one, h]; simp
set_option maxHeartbeats 1000000 in
theorem toIntS_any (A : Option Addr) (n c : Nat) (l : List Int) (w : World) (hr : RS w 1 A n (intCells l)) (hn : n ≤ 1048576) :
    Calls Try.prog 105 #[.slice A n c] w fun e w' => ∃ A' c', e = .returned (.slice A' n c') ∧ w'.ownsRow w.heap.size 3 1 (.slice A' n c') n (intCells l) ∧ Below w.heap.size w w' := by
  have hl := Lib.hid hr.ints
  obtain ⟨i0, hi, hz0, hz1, hz2⟩ := info_parts intInfo
  go_enter Try.func105, Try.ntmps105
  go_wp2_with (at_make; refine wpList_make_full _ rfl _ _ _ rfl w.heap.size 3 i0 _ 1 Try.underlying56 hi hz0 hz1 _ _ _ _ n rfl rfl rfl rfl (by rw [hz2]; omega) (by unfold maxLen; omega) (Nat.le_refl _) ?_; intro w1 hown1 hg1)
  have hb1 : Below w.heap.size w w1 := ⟨hg1.os, hg1.tape, hg1.output, hg1.size, fun k hk => hg1.block k hk (by simp)⟩
  clear hg1
  go_loopw [4] (fun i wr => ∃ k : Nat, k ≤ n ∧ i = .int .i64 k ∧ Below w.heap.size w wr ∧ ∃ xs, wr.ownsRow w.heap.size 3 1 (.slice (some ⟨w.heap.size, 0, none⟩) n n) n xs ∧ Hid (xs.take k = intCells (l.take k))) (fun i _ => n - (intOf i).toNat)
  case atStart => exact ⟨0, Nat.zero_le _, rfl, hb1, _, hown1, by simp [Hid]⟩
  case round =>
    obtain ⟨k, hk, rfl, hb, xs, hown, htk⟩ := hrel
    clear hb1 hown1
    by_cases hlt : k < n
    · obtain ⟨g, off, rfl, x, hx, hc⟩ := (hr.below hb).intAt hlt
      have HX := Lib.hid hx; clear hx
      obtain ⟨d0, hd0⟩ := own_cells hown (j := k) (by omega)
      have hf := fun j => hown.frozenAt j
      have i1 : (0 : Int) ≤ k := by omega
      have i2 : (k : Int) < n := by omega
      go_wp2
      go_roundw
      case rel =>
        obtain ⟨y0, o0, t0⟩ := own_fill (.int .i64 x) hown htk.out rfl (by omega)
        refine ⟨k + 1, by omega, by go_num, hb.setCell (Nat.le_refl _) _, y0, o0, ?_⟩
        show y0.take (k + 1) = _
        rw [t0, take_ints HX.out]
      case measure => simp [intOf]; omega
    · go_wp2
      have : k = n := by omega
      subst this
      go_ret
      refine ⟨_, _, rfl, ?_, hb⟩
      rw [take_all htk.out ((own_len hown).trans (by simp)), List.take_of_length_le (by rw [hl.out]; exact Nat.le_refl _)] at hown
      exact hown
set_option maxHeartbeats 1000000 in
theorem eqIntS_true (A : Option Addr) (n c : Nat) (l : List Int) (A' : Option Addr) (n' c' : Nat) (l' : List Int) (w : World) (hr : RS w 1 A n (intCells l)) (hr' : RS w 1 A' n' (intCells l')) (hn : n ≤ 9223372036854775807) (hn' : n' ≤ 9223372036854775807) (heq : l = l') :
    Calls Try.prog 108 #[.slice A n c, .slice A' n' c'] w fun e w' => e = .returned (.bool true) ∧ Below w.heap.size w w' := by
  have hl := hr.ints
  have hl' := hr'.ints
  obtain rfl : n = n' := by rw [← hl, ← hl', heq]
  have HE := Lib.hid heq; clear heq hl hl'
  go_enter Try.func108, Try.ntmps108
  go_wp2
  go_loopw [5] (fun i wr => ∃ k : Nat, k ≤ n ∧ i = .int .i64 k ∧ Below w.heap.size w wr) (fun i _ => n - (intOf i).toNat)
  case atStart => exact ⟨0, Nat.zero_le _, rfl, Below.refl _ _⟩
  case round =>
    obtain ⟨k, hk, rfl, hb⟩ := hrel
    by_cases hlt : k < n
    · obtain ⟨g, off, rfl, x, hx, hc⟩ := (hr.below hb).intAt hlt
      obtain ⟨g', off', rfl, x', hx', hc'⟩ := (hr'.below hb).intAt hlt
      rw [HE.out, hx'] at hx
      obtain rfl : x' = x := by simpa using hx
      clear hx hx'
      have i1 : (0 : Int) ≤ k := by omega
      have i2 : (k : Int) < n := by omega
      go_wp2
      go_quiet (fail)
      go_wp2
      go_roundw
      case rel => exact ⟨k + 1, by omega, by go_num, below_drewN hb _⟩
      case measure => simp [intOf]; omega
    · go_wp2
      have : k = n := by omega
      subst this
      go_ret
      exact ⟨rfl, hb⟩
set_option maxHeartbeats 1000000 in
theorem markIntS_any (base : Nat) (A : Option Addr) (n c : Nat) (xs : List Value) (k0 : Int) (w : World) (ho : w.ownsRow base 3 1 (.slice A n c) n xs) (hn : n ≤ 1048600) (h0 : 1 ≤ k0) (h1 : k0 ≤ 100000000) :
    Calls Try.prog 90 #[.slice A n c, .int .i64 k0] w fun e w' => e = .returned (.int .i64 (k0 + n)) ∧ (∃ ys, w'.ownsRow base 3 1 (.slice A n c) n ys) ∧ w.grownBy w' (Value.slice A n c).ownBlock := by
  go_enter Try.func90, Try.ntmps90
  go_wp2
  go_loopw [1, 5] (fun kk i wr => ∃ k : Nat, k ≤ n ∧ i = .int .i64 k ∧ kk = .int .i64 (k0 + k) ∧ w.grownBy wr (Value.slice A n c).ownBlock ∧ ∃ xs, wr.ownsRow base 3 1 (.slice A n c) n xs) (fun _ i _ => n - (intOf i).toNat)
  case atStart => exact ⟨0, Nat.zero_le _, rfl, by simp, World.grownBy.refl _ _, xs, ho⟩
  case round =>
    obtain ⟨k, hk, rfl, rfl, hg, xs, hown⟩ := hrel
    by_cases hlt : k < n
    · obtain ⟨g, rfl, hgb, hgs, hc, hf⟩ := own_addr hown (by omega)
      have i1 : (0 : Int) ≤ k := by omega
      have i2 : (k : Int) < n := by omega
      obtain ⟨d0, hd0⟩ := own_cells hown (j := k) (by omega)
      clear hc
      go_wp2
      go_roundw
      case rel =>
        exact ⟨k + 1, by omega, by go_num, by go_num, hg.trans (hown.stored k (.int .i64 (k0 + k))).2, _, (hown.stored k (.int .i64 (k0 + k))).1⟩
      case measure => simp [intOf]; omega
    · go_wp2
      have : k = n := by omega
      subst this
      go_ret
      exact ⟨rfl, ⟨xs, hown⟩, hg⟩
theorem intOpen : FlatAs Try.prog 3 (fun b : Int => [.int .i64 b]) i64 := by
  intro H enc w base spare held n cs x h
  obtain ⟨b, rfl, _, w0⟩ := DataW.trod_int Try.underlying3 h
  exact ⟨b, rfl, i64_of w0⟩
theorem ints_flat (l : List Int) : l.flatMap (fun b : Int => [Value.int .i64 b]) = intCells l := by
  induction l with
  | nil => rfl
  | cons x l ih => rw [List.flatMap_cons, ih]; rfl
set_option maxRecDepth 100000 in
theorem open_intS {H : Type} {enc : TypeId × Value → H} {w : World} {base : Nat} {spare : Nat → Bool} {held : Bool} {r : Reach} {b0 : Nat} {v : Value} {d : DataW H} {p : List MemPlace}
    (hv : Value.okWide Try.prog w r b0 56 v) (h : DataW.Trod enc Try.prog w base spare held 56 v d p) :
    ∃ (A : Option Addr) (n c : Nat) (l : List Int), v = .slice A n c ∧ RS w 1 A n (intCells l) ∧ n ≤ 9223372036854775807 ∧ ∀ y ∈ l, i64 y := by
  obtain ⟨a0, len, cap, rfl⟩ := okWide_slice Try.underlying56 hv
  obtain ⟨fuel, hf⟩ := h
  obtain ⟨A, n, c, l, hv, hr, hl, hn, hc, hok⟩ := open_flat (f := fun b : Int => [.int .i64 b]) Try.underlying56 (by kernel_rfl : Try.prog.cellsOf 3 = 1) (by omega) (fun _ => rfl) intOpen (by simpa [Value.cells] using hf)
  refine ⟨A, n, c, l, hv, ?_, by unfold maxLen at hc; omega, hok⟩
  rwa [ints_flat] at hr
end Go.Proofs.Ytlgodbjbllpipaa
