/- The walks of the drawing of data: a cursor is a block of its own; what is drawn lies in bounds. -/
import Derived.Test.YtnhkpdaogclfjaaMore
import Derived.Test.YtnhkpdaogclfjaaOpen
namespace Go.Proofs.Ytnhkpdaogclfjaa
open Go.ChangeShapes Go.WideShapes Go.ChangeAt Go.RowKit

/-- A list of bytes as cells. -/
def byteCells (bs : List Int) : List Value := bs.map fun b => .int .u8 b
/-- Block g is a cursor over some bytes. -/
def Cur (w : World) (g : Nat) : Prop :=
  ∃ (A : Option Addr) (n c i : Nat) (h : Int) (bs : List Int), w.heap[g]? = some (.cells #[.slice A n c, .int .i64 i, .int .i64 h] 112 (0, 0)) ∧ RS w 1 A n (byteCells bs) ∧ (∀ b ∈ bs, 0 ≤ b ∧ b < 256) ∧ i ≤ n ∧ n ≤ 1048600 ∧
    (∀ a, A = some a → 0 < n → a.block < g)
theorem Cur.lt {w : World} {g : Nat} (h : Cur w g) : g < w.heap.size := by
  obtain ⟨A, n, c, i, h, bs, hh, _⟩ := h
  exact (Array.getElem?_eq_some_iff.1 hh).1
theorem and255 (a : Int) : 0 ≤ bits .and .i64 a 255 ∧ bits .and .i64 a 255 ≤ 255 := by
  have h : (BitVec.ofInt 64 a &&& BitVec.ofInt 64 255).toNat ≤ 255 := by
    rw [BitVec.toNat_and]
    exact Nat.and_le_right
  have e : bits .and .i64 a 255 = IntKind.i64.wrap ((BitVec.ofInt 64 a &&& BitVec.ofInt 64 255).toNat : Int) := rfl
  rw [e, IntWalk.i64_in _ (by omega)]
  omega
section
variable {w w' w'' : World} {g : Nat}
theorem RS.grown {size n : Nat} {A : Option Addr} {xs : List Value} {row : Option Nat} (h : RS w size A n xs) (hg : w.grownBy w' row) (hne : ∀ a, A = some a → 0 < n → some a.block ≠ row) : RS w' size A n xs :=
  ⟨h.len, fun hn => by
    obtain ⟨b, off, e, hc⟩ := h.at_ hn
    exact ⟨b, off, e, fun j u hu => by
      have h1 := hc j u hu
      exact (World.cell?_of_block (w := w) (w' := w') (hg.block b (World.block_lt_of_cell? w ⟨b, off + j, none⟩ h1) (hne _ e hn))).trans h1⟩⟩
theorem Cur.below (h : Cur w g) (hb : Below w.heap.size w w') : Cur w' g := by
  obtain ⟨A, n, c, i, hs, bs, hh, hr, r⟩ := h
  exact ⟨A, n, c, i, hs, bs, blk_keep hb hh, hr.below hb, r⟩
/-- A row made before the cursor was touched stays: it lies in another block. -/
theorem cur_apart {base size n : Nat} {e : TypeId} {v : Value} {xs : List Value} (h : w.ownsRow base e size v n xs) (hb : g < base) : v.ownBlock = none ∨ v.ownBlock ≠ some g := by
  cases hv : v.ownBlock with
  | none => exact .inl rfl
  | some k =>
    refine .inr fun he => ?_
    have := (h.lt k hv).1
    injection he with he
    omega
end

set_option maxHeartbeats 1000000 in
theorem l1Byte_any (g : Nat) (w : World) (hc : Cur w g) :
    Calls Try.prog 92 #[.pointer (some ⟨g, 0, none⟩)] w fun e w' => ∃ x : Int, e = .returned (.int .i64 x) ∧ 0 ≤ x ∧ x ≤ 255 ∧ w.grownBy w' (some g) ∧ Cur w' g := by
  obtain ⟨A, n, c, i, h, bs, hh, hr, hbs, hin, hn, hne⟩ := hc
  have HH := Lib.hid hh; clear hh
  have c0 := blk_at HH.out (j := 0) rfl; have c1 := blk_at HH.out (j := 1) rfl; have c2 := blk_at HH.out (j := 2) rfl
  have f := blk_free HH.out
  have f1 := f 1; have f2 := f 2
  clear f
  by_cases hlt : i < n
  · obtain ⟨ga, off, rfl, hcell⟩ := hr.at_ (by omega)
    obtain ⟨b, hb⟩ : ∃ b, bs[i]? = some b := ⟨_, List.getElem?_eq_getElem (by have := hr.len; simp [byteCells] at this; omega)⟩
    have hb1 := hbs b (List.mem_of_getElem? hb)
    have hcb := hcell i (.int .u8 b) (by simp [byteCells, hb])
    have hga : ga ≠ g := Nat.ne_of_lt (hne _ rfl (by omega))
    have cb : ∀ v, (w.setCell ⟨g, 2, none⟩ v).cell? ⟨ga, off + i, none⟩ = some (.int .u8 b) := fun v => by
      rw [World.cell?_setCell_other _ _ _ _ (fun e => hga (by injection e with e; exact e.symm))]; exact hcb
    have HB := Lib.hid hcell
    have i1 : (0 : Int) ≤ i := by omega
    have i2 : (i : Int) < n := by omega
    clear hcell hb hcb
    go_enter Try.func92, Try.ntmps92
    go_wp2
    go_quiet (fail)
    go_wp2
    generalize hx : bits .and .i64 (bits .xor .i64 _ _) 255 = x
    have hx0 := and255 (bits .xor .i64 (wrap64 (wrap64 (h * 6364136223846793005) + 1442695040888963407) / 8589934592) (wrap64 (wrap64 (h * 6364136223846793005) + 1442695040888963407) / 35184372088832))
    rw [hx] at hx0
    clear hx
    generalize wrap64 (wrap64 (h * 6364136223846793005) + 1442695040888963407) = h2
    go_quiet (fail)
    go_wp2
    go_quiet (fail)
    go_wp2
    go_ret
    have hy := and255 (x + b)
    refine ⟨_, rfl, hy.1, hy.2, ?_, some ⟨ga, off, none⟩, n, c, i + 1, h2, bs, ?_, ?_, hbs, by omega, hn, hne⟩
    · exact (grown_drewN (grown_set w ⟨g, 2, none⟩ _) _).trans (grown_set _ ⟨g, 1, none⟩ _)
    · exact heap_setCell_same _ g 1 _ _ _ (heap_setCell_same w g 2 _ _ _ HH.out)
    · exact hr.grown ((grown_drewN (grown_set w ⟨g, 2, none⟩ _) _).trans (grown_set _ ⟨g, 1, none⟩ _)) (fun a e hn' he => Nat.ne_of_lt (hne a e hn') (by injection he))
  · go_enter Try.func92, Try.ntmps92
    go_wp2
    go_quiet (fail)
    go_wp2
    generalize hx : bits .and .i64 (bits .xor .i64 _ _) 255 = x
    have hx0 := and255 (bits .xor .i64 (wrap64 (wrap64 (h * 6364136223846793005) + 1442695040888963407) / 8589934592) (wrap64 (wrap64 (h * 6364136223846793005) + 1442695040888963407) / 35184372088832))
    rw [hx] at hx0
    clear hx
    generalize wrap64 (wrap64 (h * 6364136223846793005) + 1442695040888963407) = h2
    go_quiet (fail)
    go_wp2
    go_ret
    refine ⟨_, rfl, hx0.1, hx0.2, ?_, A, n, c, i, h2, bs, ?_, ?_, hbs, by omega, hn, hne⟩
    · exact grown_drewN (grown_drewN (grown_set w ⟨g, 2, none⟩ _) _) _
    · exact heap_setCell_same w g 2 _ _ _ HH.out
    · exact hr.grown (row := some g) (grown_drewN (grown_drewN (grown_set w ⟨g, 2, none⟩ _) _) _) (fun a e hn' he => Nat.ne_of_lt (hne a e hn') (by injection he))

theorem l1Below_any (g : Nat) (m : Int) (w : World) (hc : Cur w g) (hm : m ≤ 1000000000) :
    Calls Try.prog 77 #[.pointer (some ⟨g, 0, none⟩), .int .i64 m] w fun e w' => ∃ x : Int, e = .returned (.int .i64 x) ∧ 0 ≤ x ∧ x ≤ 1000000000 ∧ (0 < m → x < m) ∧ w.grownBy w' (some g) ∧ Cur w' g := by
  by_cases h0 : m ≤ 0
  · go_enter Try.func77, Try.ntmps77
    go_wp2
    go_ret
    exact ⟨0, rfl, by omega, by omega, by omega, World.grownBy.refl _ _, hc⟩
  · by_cases h1 : m ≤ 256
    · go_enter Try.func77, Try.ntmps77
      go_wp2_with fail
      refine (l1Byte_any g _ hc).mono ?_; rintro e w1 ⟨x, rfl, hx0, hx1, hg1, hc1⟩
      have q1 : 0 ≤ x % m := Int.emod_nonneg _ (by omega)
      have q2 : x % m < m := Int.emod_lt_of_pos _ (by omega)
      go_wp2_with fail
      go_ret
      exact ⟨x % m, rfl, q1, by omega, fun _ => q2, hg1, hc1⟩
    · go_enter Try.func77, Try.ntmps77
      go_wp2_with fail
      refine (l1Byte_any g _ hc).mono ?_; rintro e w1 ⟨x, rfl, hx0, hx1, hg1, hc1⟩
      go_wp2_with fail
      refine (l1Byte_any g _ hc1).mono ?_; rintro e w2 ⟨y, rfl, hy0, hy1, hg2, hc2⟩
      go_wp2_with fail
      refine (l1Byte_any g _ hc2).mono ?_; rintro e w3 ⟨z, rfl, hz0, hz1, hg3, hc3⟩
      go_wp2_with fail
      refine (l1Byte_any g _ hc3).mono ?_; rintro e w4 ⟨v, rfl, hv0, hv1, hg4, hc4⟩
      have q1 : 0 ≤ (x * 16777216 + y * 65536 + z * 256 + v) % m := Int.emod_nonneg _ (by omega)
      have q2 : (x * 16777216 + y * 65536 + z * 256 + v) % m < m := Int.emod_lt_of_pos _ (by omega)
      go_wp2_with fail
      go_ret
      exact ⟨(x * 16777216 + y * 65536 + z * 256 + v) % m, rfl, q1, by omega, fun _ => q2, ((hg1.trans hg2).trans hg3).trans hg4, hc4⟩

theorem l1Once_any (g : Nat) (m : Int) (w : World) (hc : Cur w g) (hm : m ≤ 1000000000) :
    Calls Try.prog 75 #[.pointer (some ⟨g, 0, none⟩), .int .i64 m] w fun e w' => ∃ b : Bool, e = .returned (.bool b) ∧ w.grownBy w' (some g) ∧ Cur w' g := by
  go_enter Try.func75, Try.ntmps75
  go_wp2_with fail
  refine (l1Below_any g m _ hc hm).mono ?_; rintro e w1 ⟨x, rfl, -, -, -, hg1, hc1⟩
  go_wp2_with fail
  go_ret
  exact ⟨_, rfl, hg1, hc1⟩

/-- A slice of numbers that Go can hold. -/
def Ints (w : World) (A : Option Addr) (n : Nat) (xs : List Int) : Prop := RS w 1 A n (xs.map (Value.int .i64)) ∧ ∀ x ∈ xs, i64 x
theorem l1PickInt_any (g : Nat) (A : Option Addr) (n c : Nat) (xs : List Int) (w : World) (hc : Cur w g) (h : RS w 1 A n (xs.map (Value.int .i64))) (hxs : ∀ x ∈ xs, i64 x) (h0 : 0 < n) (hn : n ≤ 1000000) (hA : ∀ a, A = some a → a.block ≠ g) :
    Calls Try.prog 79 #[.pointer (some ⟨g, 0, none⟩), .slice A n c] w fun e w' => ∃ x : Int, e = .returned (.int .i64 x) ∧ i64 x ∧ w.grownBy w' (some g) ∧ Cur w' g := by
  go_enter Try.func79, Try.ntmps79
  go_wp2_with fail
  refine (l1Below_any g n _ hc (by omega)).mono ?_; rintro e w1 ⟨x, rfl, hx0, -, hx1, hg1, hc1⟩
  have hx2 := hx1 (by omega)
  clear hx1
  have h1 := h.grown hg1 (fun a e _ he => hA a e (by injection he))
  obtain ⟨j, rfl⟩ := Int.eq_ofNat_of_zero_le hx0
  obtain ⟨ga, off, rfl, hcell⟩ := h1.at_ h0
  obtain ⟨y, hy⟩ : ∃ y, xs[j]? = some y := ⟨_, List.getElem?_eq_getElem (by have := h.len; simp at this; omega)⟩
  have hyb := hxs y (List.mem_of_getElem? hy)
  have c1 := hcell j (.int .i64 y) (by simp [hy])
  clear hcell hy
  go_wp2_with fail
  go_ret
  exact ⟨y, rfl, hyb, hg1, hc1⟩
end Go.Proofs.Ytnhkpdaogclfjaa
