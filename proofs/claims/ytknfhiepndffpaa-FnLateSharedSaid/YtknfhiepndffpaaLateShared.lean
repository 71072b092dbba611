/- FnLateShared returns true for all arguments, and leaves them as they were. No condition. -/
import Derived.Test.YtknfhiepndffpaaDrawCase
import Derived.Test.YtknfhiepndffpaaSharing
import Derived.Test.YtknfhiepndffpaaLayD
import Derived.Test.YtknfhiepndffpaaMore
import Derived.Deep.RegionHeld3
import Derived.Deep.AppendLies
namespace Go.Proofs.Ytknfhiepndffpaa.fnLateShared
open Go.ChangeShapes Go.WideShapes Go.ChangeAt Go.RowKit

/-- Two rows that lie apart, the first appended to. -/
theorem apart_app {a a' b : Option Nat} {w : World} {base e size n : Nat} {v : Value} {xs : List Value} (h : w.ownsRow base e size v n xs) (hb : v.ownBlock = b) (hab : b = none ∨ b ≠ a) (ha : a' = a ∨ a' = some w.heap.size) : b = none ∨ b ≠ a' := by
  rcases ha with rfl | rfl
  · exact hab
  · rcases hab with h0 | _
    · exact .inl h0
    · cases hv : b with
      | none => exact .inl rfl
      | some k =>
        refine .inr fun he => ?_
        have := (h.lt k (by rw [hb, hv])).2
        injection he with he
        omega

set_option maxHeartbeats 4000000 in
theorem walk (w : World) (A : Option Addr) (n c : Nat) (bs : List Int) (hr : RS w 1 A n (byteCells bs)) (hn : n ≤ 9223372036854775807) (hok : ∀ y ∈ bs, 0 ≤ y ∧ y < 256) :
    Calls Try.prog 16 #[.slice A n c] w fun e w' => e = .returned (.bool true) ∧ Below w.heap.size w w' := by
  obtain ⟨i0, hi, hz0, hz1, hz2⟩ := info_parts intInfo
  by_cases hbig : 1048576 < n
  · go_enter Try.func16, Try.ntmps16
    go_wp2_with (go_at_call 17; refine (big_any _ _ _ _ hn).mono ?_; rw [decide_eq_true hbig]; rintro e w' ⟨rfl, rfl⟩)
    go_ret
    exact ⟨rfl, Below.refl _ _⟩
  · go_enter Try.func16, Try.ntmps16
    go_wp2_with fail
    refine (big_any _ _ _ _ hn).mono ?_; rw [decide_eq_false hbig]; rintro e w' ⟨rfl, rfl⟩
    go_wp2_with fail
    refine (DrawShareLate_any _ _ _ _ _ hr hok (by omega)).mono ?_; rintro e w1 ⟨A1, n1, c1, l, a, rfl, r1, hn1, hl1, ha, b1⟩
    go_wp2_with fail
    refine (implShareLate _ _ _ l a _ r1 (by omega)).mono ?_; rintro e w2 ⟨A2, c2, rfl, o2, hb2⟩
    have rx := RS.of_own o2
    have xlen := shOut_len l a
    have rl := r1.below hb2
    have b2 := below_then b1 hb2
    clear r1 o2 hb2 b1
    go_wp2_with fail
    refine (specShareLate _ _ _ l a _ rl (by omega)).mono ?_; rintro e w3 ⟨A3, c3, rfl, o3, hb3⟩
    have rl := rl.below hb3
    have rx := rx.below hb3
    have b3 := below_then b2 hb3
    clear o3 hb3 b2
    cases is : shIs l a
    · have e1 : shOut l a = [] := by
        unfold shIs at is
        cases hs : shareL l a with
        | none => exact (shareL_no hs).1
        | some p => rw [hs] at is; cases is
      rw [e1]
      clear e1 is
      go_wp2_with fail
      go_ret
      exact ⟨rfl, b3⟩
    · obtain ⟨k1, k2, k3, a1, a2, k4, k5, k6⟩ := law_shared is
      have gb := shGone_bd is
      have hl := rl.lay
      rw [hl] at k4 k2
      rw [k4] at rx ⊢
      have HL := Lib.hid hl; have K1 := Lib.hid k1; have K3 := Lib.hid k3; have K5 := Lib.hid k5; have K6 := Lib.hid k6
      clear is hl k1 k3 k4 k5 k6 xlen
      generalize shGone l a = gone at *
      generalize shOut l a = x at *
      have zl := Nat.zero_le n1
      go_wp2_with fail
      have z3 := b3.size
      have q0 := own_empty w3 w3.heap.size 3 1 (Nat.le_refl _)
      have s0 := own_empty (w3.alloc (Obj.cells #[] 3)) w3.heap.size 3 1 (below_box w3 _).size
      have q0 := q0.alloc (Obj.cells #[] 3)
      have ap0 : (Value.slice (some ⟨(w3.alloc (Obj.cells #[] 3)).heap.size, 0, none⟩) 0 0).ownBlock = none ∨ (Value.slice (some ⟨(w3.alloc (Obj.cells #[] 3)).heap.size, 0, none⟩) 0 0).ownBlock ≠ (Value.slice (some ⟨w3.heap.size, 0, none⟩) 0 0).ownBlock := .inr (by simp [Value.ownBlock])
      have b0 := (below_box w3 (Obj.cells #[] 3)).alloc (below_box w3 _).size (Obj.cells #[] 3)
      rw [World.size_alloc] at s0 ap0
      have h3 := b3
      clear b3
      go_loopw [11, 12, 13] (fun q s i wr => ∃ (k : Nat) (Aq As : Option Addr) (cq cs : Nat), k ≤ n1 ∧ i = .int .i64 k ∧ q = .slice Aq k cq ∧ s = .slice As k cs ∧ wr.ownsRow w3.heap.size 3 1 (.slice Aq k cq) k (intCells (quant (l.take k))) ∧
          wr.ownsRow w3.heap.size 3 1 (.slice As k cs) k (intCells (appTo a (quant l) k)) ∧ Hid ((Value.slice As k cs).ownBlock = none ∨ (Value.slice As k cs).ownBlock ≠ (Value.slice Aq k cq).ownBlock) ∧ Below w3.heap.size w3 wr) (fun _ _ i _ => n1 - (intOf i).toNat)
      case atStart => exact ⟨0, _, _, _, _, Nat.zero_le _, rfl, rfl, rfl, q0, s0, ap0, b0⟩
      case round =>
        obtain ⟨k, Aq, As, cq, cs, hk, rfl, rfl, rfl, oq, os, ap, hb⟩ := hrel
        clear q0 s0 ap0 b0
        by_cases hlt : k < n1
        · obtain ⟨g, off, rfl, q, v, u, hx, hq, hv, hu⟩ := rl.layAt hlt
          obtain ⟨g', off', rfl, q', v', u', hx', hq', hv', hu'⟩ := rx.layAt hlt
          obtain ⟨y, hy1, hy2⟩ := K6.out k _ hx
          rw [hx'] at hy1
          injection hy1 with hy1
          rw [← hy1] at hy2
          have gl := World.block_lt_of_cell? w3 _ hv
          have gx := World.block_lt_of_cell? w3 _ hv'
          have l1 := (hl1 _ (List.mem_of_getElem? hx))
          have e : shareI a (quant l) (k + 1) - shareI a (quant l) k = v' - v := by simp only at hy2; omega
          have AE := Lib.hid (appTo_succ a (quant l) k)
          rw [e] at AE
          have QE := Lib.hid (quant_take l k hx)
          have B1 := shareI_bd K3.out a1 a2 (k + 1) (by rw [quant_len, HL.out]; omega)
          have B2 := shareI_bd K3.out a1 a2 k (by rw [quant_len, HL.out]; omega)
          have d1 : -2000000000 ≤ v' - v ∧ v' - v ≤ 2000000000 := by omega
          have hq := cell_keep hb hq
          have HV := Lib.hid hv; have HV' := Lib.hid hv'
          clear hv hv'
          clear hx hx' hy1 hy2 e B1 B2 hu hq' hu' l1
          have i1 : (0 : Int) ≤ k := by omega
          have i2 : (k : Int) < n1 := by omega
          have zz := hb.size
          go_wp2_with (at_builtin; refine wpList_app _ rfl _ _ _ rfl w3.heap.size 3 i0 _ 1 8 Try.underlying47 hi hz0 hz1 hz2 rfl (by omega) _ k (intCells (quant (l.take k))) rfl (oq.alloc _) _ 1 1 (intCells [q]) rfl (RS_new (by simp)) (intCells_one _) (by unfold maxLen; omega) (by omega) (by simp; omega) ?_; intro Aq2 cq2 w5 oq5 hg5 hat5 hb5)
          have os5 := own_grown (os.alloc (Obj.cells #[.int .i64 q] 3)) hg5 ap.out
          have ap5 := Lib.hid (apart_app (os.alloc (Obj.cells #[.int .i64 q] 3)) rfl ap.out hat5)
          have b5 : Below w3.heap.size w3 w5 := (hb.alloc hb.size _).trans hb5
          clear hq oq os ap hb hb5 hg5 hat5
          have z5 := b5.size
          have hv5 := cell_keep b5 HV.out
          have hv5' := cell_keep b5 HV'.out
          have hd : IntKind.i64.wrap (v' - v) = v' - v := IntWalk.i64_in _ (by omega)
          obtain ⟨sb, sbe⟩ : ∃ sb, (Value.slice As k cs).ownBlock = sb := ⟨_, rfl⟩
          have ag : (Value.slice As k cs).ownBlock ≠ some g := fun he => by have := (os5.lt g he).1; omega
          have ag' : (Value.slice As k cs).ownBlock ≠ some g' := fun he => by have := (os5.lt g' he).1; omega
          clear sbe
          go_wp2_with fail
          go_region_held3 (fun w' => w'.cell? ⟨g, off + k * 3 + 1, none⟩ = some (.int .i64 v) ∧ w'.cell? ⟨g', off' + k * 3 + 1, none⟩ = some (.int .i64 v'))
            (first
              | go_keep
              | (go_split_ands
                 refine ⟨?_, ?_⟩
                 · (rw [hgrow.cell_far _ (by simp; omega) (Ne.symm ag)]; assumption)
                 · (rw [hgrow.cell_far _ (by simp; omega) (Ne.symm ag')]; assumption)))
            ((refine step_append_lies _ (by rfl) _ _ _ (by rfl) w3.heap.size 3 i0 _ 1 8 Try.underlying47 hi hz0 hz1 hz2 rfl (by omega) (.slice As k cs) k (intCells (appTo a (quant l) k)) (by rfl) ((os5.alloc _).drew)
                ⟨w5.heap.size, 0, none⟩ 1 1 [.int .i64 (v' - v)] (by rfl) (by rfl) (World.news_of_block (cs := #[.int .i64 (v' - v)]) (t := 3) (fr := (0, 0)) (heap_alloc_new w5 _)) (by simp [Value.oneCell'])
                (by omega) (by unfold maxLen; omega) (by omega) (by simp; omega) (w5.heap.size + 1) (by simp) ?_; intro gg cap w6 os6 hgrow hat hlt))
          have oq6 := own_grown ((oq5.alloc (Obj.cells #[.int .i64 (v' - v)] 3)).drew) hgrow (apart_symm ap5.out)
          have ap6 : (Value.slice Aq2 (k + 1) cq2).ownBlock = none ∨ (Value.slice Aq2 (k + 1) cq2).ownBlock ≠ (Value.slice (some ⟨gg, 0, none⟩) (k + 1) cap).ownBlock :=
            apart_app (w := w5.alloc (Obj.cells #[.int .i64 (v' - v)] 3)) (oq5.alloc _) rfl (apart_symm ap5.out) (by
              rcases hat with h | h
              · exact .inl h.symm
              · exact .inr (by rw [h, World.size_alloc]; rfl))
          have b6 : Below w3.heap.size w3 w6 := ((b5.alloc b5.size (Obj.cells #[.int .i64 (v' - v)] 3)).drew).trans (below_of_grown ((os5.alloc (Obj.cells #[.int .i64 (v' - v)] 3)).drew) hgrow (Nat.le_refl _) (by simp; omega))
          rw [← List.map_append (l₂ := [q]), ← QE.out] at oq6
          have os6' : w6.ownsRow w3.heap.size 3 1 (.slice (some ⟨gg, 0, none⟩) (k + 1) cap) (k + 1) (intCells (appTo a (quant l) (k + 1))) := by
            rw [AE.out, intCells, List.map_append]; exact os6
          have AP6 := Lib.hid (apart_symm ap6)
          clear os6 ap6 hat hgrow hv5 hv5' hd oq5 os5 b5
          go_wp2_with fail
          go_roundw
          case rel => exact ⟨k + 1, Aq2, some ⟨gg, 0, none⟩, cq2, cap, by omega, by go_num, rfl, rfl, oq6, os6', AP6.out, b6⟩
          case measure => simp [intOf]; omega
        · obtain rfl : n1 = k := by omega
          rw [List.take_of_length_le (by rw [HL.out]; exact Nat.le_refl _)] at oq
          have rl := rl.below hb
          have rx := rx.below hb
          have bb := below_app h3 hb h3.size
          have g1 := worthOf_bd l; have g2 := worthOf_bd x
          go_wp2_with fail
          refine (isSharing_true a _ _ _ (quant l) _ _ _ (RS.of_own oq) (RS.of_own os) K3.out a1 a2).mono ?_; rintro e w7 ⟨rfl, hb7⟩
          have rl := rl.below hb7; have rx := rx.below hb7; have bb := below_then bb hb7
          clear hb7 oq os ap hb
          have e1 : worthOf x = worthOf l + a - gone := by have := K5.out; omega
          have E1 := Lib.hid e1
          rw [e1] at g2
          clear e1
          have t1 : worthOf l + a - gone + gone = worthOf l + a := by omega
          go_wp2_with fail
          refine (specWorthOf _ _ _ x _ rx (by omega)).mono ?_; rw [E1.out]; rintro e w8 ⟨rfl, hb8⟩
          have rl := rl.below hb8; have bb := below_then bb hb8
          clear hb8
          go_wp2_with fail
          refine (specWorthOf _ _ _ l _ rl (by omega)).mono ?_; rintro e w9 ⟨rfl, hb9⟩
          have bb := below_then bb hb9
          clear hb9
          go_wp2_with fail
          go_ret
          exact ⟨rfl, bb⟩
set_option maxRecDepth 100000 in
theorem lifted (os : Os) (started : os.Started) (H : Type) (enc : TypeId × Value → H) :
    ReturnsInHanded {} Try.checked os 16 .any (Rows.fnLateSharedSpec.pre6 enc Try.prog Try.f16 Rows.fnLateSharedRow.domain false) (Rows.fnLateSharedSpec.post enc Try.prog Try.f16 false true false false) := by
  refine returnsInHanded_of_change (C := Try.checked) Try.own started (by kernel_rfl) Try.func16
    (ChangeSpec.witness6 (enc := enc) (C := Try.checked) false ⟨#[], #[.slice none 0 0], []⟩ 8 (by kernel_rfl) (by kernel_rfl) (by kernel_rfl) (by kernel_rfl)) ?_
  intro W base args ds gs before hval0 hW hcnd _
  have hval : ∀ (j : Nat) t v, Try.f16.params[j]? = some t → args[j]? = some v → Value.okWide Try.prog W .any base t v := hval0
  have hW' := hW
  obtain ⟨p, q, hA0, hV, rfl, hfz, hnd⟩ := hW
  have hA : DataW.TrodAll enc Try.prog W 0 (fun _ => true) true Try.f16.params.toList args.toList ds p := hA0
  rw [Try.params16] at hA hval
  obtain ⟨v0, vs0, d0, ds0, p0, q0, hargs, rfl, rfl, h0, r0⟩ := trodAll_cons hA
  obtain ⟨rfl, rfl, rfl⟩ := trodAll_nil r0
  obtain rfl : args = #[v0] := by cases args; simp_all
  obtain ⟨rfl, rfl⟩ := trodVars_none hV
  obtain ⟨Acode, ncode, ccode, code, rfl, hrcode, hncode, hokcode⟩ := open_bytes (hval 0 22 v0 rfl rfl) h0
  refine (walk W Acode ncode ccode code hrcode hncode hokcode).mono fun e W' ⟨he, hb⟩ => ?_
  subst he
  exact ⟨_, rfl, law_post Try.laidOut (by kernel_rfl) (by kernel_rfl) Try.underlying4 hW' rfl ⟨rfl, rfl, rfl⟩ hb⟩

theorem proved : Rows.FnLateSharedSaid :=
  OpenClaim.holds_of_wide 16 Try.f16 rfl rfl rfl rfl rfl rfl rfl ⟨rfl, rfl, rfl, rfl, rfl⟩ rfl rfl rfl rfl rfl (by kernel_rfl) Try.func16 (by kernel_rfl)
    (of_decide_eq_true (by kernel_rfl)) (by unfold Func.isWrapper; first | (rw [if_pos (by decide +kernel)]; kernel_rfl) | (rw [if_neg (by decide +kernel)]; exact ⟨rfl, rfl⟩))
    (fun os started H enc _ => lifted os started H enc)
#print axioms proved
end Go.Proofs.Ytknfhiepndffpaa.fnLateShared
