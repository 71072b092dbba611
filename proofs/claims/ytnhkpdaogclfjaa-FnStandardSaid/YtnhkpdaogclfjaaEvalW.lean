/- Conditions decided: the walk of the reference's evaluation. No condition. -/
import Derived.Test.YtnhkpdaogclfjaaHoldsW
namespace Go.Proofs.Ytnhkpdaogclfjaa
open Go.ChangeShapes Go.WideShapes Go.ChangeAt Go.RowKit

set_option maxHeartbeats 4000000 in
theorem specHas (B : Option Addr) (m d : Nat) (ch : List Pk) (opt val : ByteArray) (w : World) (hrp : RS w 2 B m (ch.flatMap pkCell)) (hm : m ≤ 9223372036854775807) :
    Calls Try.prog 85 #[.slice B m d, .string opt, .string val] w fun e w' => e = .returned (.bool (picked ch ⟨1, opt, val⟩)) ∧ w = w' := by
  have hlp := Lib.hid (hrp.flatLen pkCell_len (by omega))
  have PK := Lib.hid (show picked ch ⟨1, opt, val⟩ = (ch.take m).any (pickHit ⟨1, opt, val⟩) by rw [picked, List.take_of_length_le (by rw [hlp.out]; exact Nat.le_refl _)])
  go_enter Try.func85, Try.ntmps85
  go_wp2_with fail
  go_loopw [7] (fun i wr => ∃ j : Nat, j ≤ m ∧ i = .int .i64 j ∧ Hid ((ch.take j).any (pickHit ⟨1, opt, val⟩) = false) ∧ wr = w) (fun i _ => m - (intOf i).toNat)
  case atStart => exact ⟨0, Nat.zero_le _, rfl, by simp [Hid], rfl⟩
  case round =>
    obtain ⟨j, hj, rfl, hno, rfl⟩ := hrel
    by_cases hlt2 : j < m
    · obtain ⟨g', off', rfl, ⟨po, pv⟩, hx2, p0, p1⟩ := hrp.pkAt hlt2
      simp only at p0 p1
      have HX2 := Lib.hid hx2
      have AT := Lib.hid (any_take (p := pickHit ⟨1, opt, val⟩) hx2)
      clear hx2
      have k1 : (0 : Int) ≤ j := by omega
      have k2 : (j : Int) < m := by omega
      by_cases e1 : po = opt
      · subst e1
        by_cases e2 : pv = val
        · subst e2
          have AN := Lib.hid (show picked ch ⟨1, po, pv⟩ = true by rw [picked, List.any_eq_true]; exact ⟨_, List.mem_of_getElem? HX2.out, by simp [pickHit]⟩)
          go_wp2_with fail
          go_ret
          exact ⟨ret_bool AN.out.symm, rfl⟩
        · have AN := Lib.hid (show (ch.take (j + 1)).any (pickHit ⟨1, po, val⟩) = false by rw [AT.out, hno.out]; simp [pickHit, e2])
          have ne := text_ne e2
          have ne3 : (pv.toList == val.toList) = false := by simpa using ne
          clear e2
          go_wp2_with fail
          go_roundw
          case rel => exact ⟨j + 1, by omega, by go_num, AN, trivial⟩
          case measure => simp [intOf]; omega
      · have AN := Lib.hid (show (ch.take (j + 1)).any (pickHit ⟨1, opt, val⟩) = false by rw [AT.out, hno.out]; simp [pickHit, e1])
        have ne := text_ne e1
        clear e1
        go_wp2_with fail
        go_roundw
        case rel => exact ⟨j + 1, by omega, by go_num, AN, trivial⟩
        case measure => simp [intOf]; omega
    · obtain rfl : m = j := by omega
      go_wp2_with fail
      go_ret
      exact ⟨ret_bool (by rw [PK.out, hno.out]), rfl⟩
set_option maxRecDepth 100000 in
set_option maxHeartbeats 8000000 in
theorem specEval (A : Option Addr) (n c : Nat) (l : List Cn) (B : Option Addr) (m d : Nat) (ch : List Pk) (w : World) (hr : RS w 3 A n (l.flatMap cnCell)) (hrp : RS w 2 B m (ch.flatMap pkCell)) (hm : m ≤ 9223372036854775807) (hic : isCond l = true) :
    Calls Try.prog 66 #[.slice A n c, .slice B m d] w fun e w' => e = .returned (.bool (evalC ch l)) ∧ Below w.heap.size w w' := by
  have hl := Lib.hid (hr.flatLen cnCell_len (by omega))
  obtain ⟨i0, hi, hz0, hz1, hz2'⟩ := info_parts boolInfo
  have ST := Lib.hid (evRel_start (ch := ch) hic)
  have h30 : n ≤ 30 := by
    simp only [isCond, Bool.and_eq_true, decide_eq_true_eq] at hic
    have := hl.out; omega
  clear hic
  have O1 := own_empty w w.heap.size 4 1 (Nat.le_refl _)
  have B1 := Lib.hid (below_box w (Obj.cells #[] 4))
  go_enter Try.func66, Try.ntmps66
  go_wp2_with fail
  go_loopw [5, 6] (fun st i wr => ∃ (k : Nat) (s : List Bool) (A' : Option Addr) (q c' : Nat), k ≤ n ∧ i = .int .i64 k ∧ st = .slice A' q c' ∧ q = s.length ∧ q ≤ k ∧ wr.ownsRow w.heap.size 4 1 (.slice A' q c') q (bCells s) ∧ Below w.heap.size w wr ∧ Hid (EvRel ch l k s)) (fun _ i _ => n - (intOf i).toNat)
  case atStart => exact ⟨0, [], _, 0, _, Nat.zero_le _, rfl, rfl, rfl, Nat.le_refl _, O1, B1.out, ST⟩
  case round =>
    obtain ⟨k, s, A', q, c', hk, rfl, rfl, hq, hqk, ho, hb, hE⟩ := hrel
    have QL := Lib.hid hq; clear hq
    clear O1 B1
    have hz := hb.size
    by_cases hlt : k < n
    · obtain ⟨g, off, rfl, ⟨kind, opt, val⟩, hx, c0, c1, c2⟩ := (hr.below hb).cnAt hlt
      simp only at c0 c1 c2
      have ND := evRel_need hE.out hx
      have NX := Lib.hid (evRel_step hE.out hx)
      simp only at ND
      rw [← QL.out] at ND
      have HX := Lib.hid hx
      clear hx
      have i1 : (0 : Int) ≤ k := by omega
      have i2 : (k : Int) < n := by omega
      have HB := Lib.hid hb
      rcases cnNeed_kinds kind with ⟨rfl, hn⟩ | ⟨rfl, hn⟩ | ⟨rfl, hn⟩ | ⟨rfl, hn⟩ | ⟨rfl, hn⟩ | ⟨n0, n1, n2, n3, n4, hn⟩
      · clear hn ND
        rw [evStep_0] at NX
        have oo := ho.alloc (Obj.cells #[.bool true] 4)
        go_wp2_with (at_builtin; refine wpList_app _ rfl _ _ _ rfl w.heap.size 4 i0 _ 1 1 Try.underlying127 hi hz0 hz1 hz2' rfl (by omega) _ q (bCells s) rfl oo _ 1 1 [.bool true] rfl (RS_new (by simp)) (by simp [Value.oneCell']) (by unfold maxLen; omega) (by omega) (by simp; omega) ?_; intro A4 c4 w4 o4 g4 at4 b4)
        rw [bCells_snoc] at o4
        have BN := Lib.hid ((below_then hb (below_box _ (Obj.cells #[.bool true] 4))).trans b4)
        clear g4 at4 b4 oo
        go_roundw
        case rel => exact ⟨k + 1, _, A4, q + 1, c4, by omega, by go_num, rfl, by rw [QL.out]; simp, by omega, o4, BN.out, NX⟩
        case measure => simp [intOf]; omega
      · clear hn ND
        rw [evStep_1] at NX
        obtain ⟨pb, hpb⟩ : ∃ pb, pb = picked ch ⟨1, opt, val⟩ := ⟨_, rfl⟩
        have CH := specHas B m d ch opt val wr.drew ((hrp.below hb).drewN 1) hm
        rw [← hpb] at CH
        rw [← hpb] at NX
        clear hpb
        go_upto_region 12 with fail
        refine wp_region_held_drew (S := fun v => v.cell? ⟨g, off + k * 3 + 1, none⟩ = some (.string opt) ∧ v.cell? ⟨g, off + k * 3 + 2, none⟩ = some (.string val)) (by kernel_rfl) ⟨c1, c2⟩ (fun hHeld => ?_)
        refine wpAnyH_take (i := 0) (oi := ?_) (v := ?_) (by simp only [List.getElem?_toArray, List.getElem?_cons_zero]; rfl) (by kernel_rfl) (by kernel_rfl) (by kernel_rfl) ?_ (Or.inl ⟨by rfl, ?_⟩) hHeld ?_
        rotate_left 1
        focus exact fun _ _ _ h => h
        focus (intro w hSw; (try dsimp only at hSw); go_simp; try with_reducible rfl)
        (try simp only [Act.put, List.setIfInBounds_toArray, List.set_cons_zero, List.set_cons_succ])
        refine wpAnyH_take (i := 1) (oi := ?_) (v := ?_) (by simp only [List.getElem?_toArray, List.getElem?_cons_succ, List.getElem?_cons_zero]; rfl) (by kernel_rfl) (by kernel_rfl) (by kernel_rfl) ?_ (Or.inl ⟨by rfl, ?_⟩) hHeld ?_
        rotate_left 1
        focus exact fun _ _ _ h => h
        focus (intro w hSw; (try dsimp only at hSw); go_simp; try with_reducible rfl)
        (try simp only [Act.put, List.setIfInBounds_toArray, List.set_cons_zero, List.set_cons_succ])
        refine wpAnyH_take (i := 2) (oi := ?_) (v := ?_) (by simp only [List.getElem?_toArray, List.getElem?_cons_succ, List.getElem?_cons_zero]; rfl) (by kernel_rfl) (by kernel_rfl) (by kernel_rfl) ?_ (Or.inl ⟨by rfl, ?_⟩) hHeld ?_
        rotate_left 1
        focus exact fun _ _ _ h => h
        focus (intro w hSw; (try dsimp only at hSw); go_simp; try with_reducible rfl)
        (try simp only [Act.put, List.setIfInBounds_toArray, List.set_cons_zero, List.set_cons_succ])
        refine wpAnyH_take (i := 3) (oi := ?_) (v := ?_) (by simp only [List.getElem?_toArray, List.getElem?_cons_succ, List.getElem?_cons_zero]; rfl) (by kernel_rfl) (by kernel_rfl) (by kernel_rfl) ?_ (Or.inl ⟨by rfl, ?_⟩) hHeld ?_
        rotate_left 1
        focus exact fun _ _ _ h => h
        focus (intro w hSw; (try dsimp only at hSw); go_simp; try with_reducible rfl)
        (try simp only [Act.put, List.setIfInBounds_toArray, List.set_cons_zero, List.set_cons_succ])
        refine wpAnyH_take (i := 4) (oi := ?_) (v := ?_) (by simp only [List.getElem?_toArray, List.getElem?_cons_succ, List.getElem?_cons_zero]; rfl) (by kernel_rfl) (by kernel_rfl) (by kernel_rfl) ?_ (Or.inl ⟨by rfl, ?_⟩) hHeld ?_
        rotate_left 1
        focus exact fun _ _ _ h => h
        focus (intro w hSw; (try dsimp only at hSw); go_simp; try with_reducible rfl)
        (try simp only [Act.put, List.setIfInBounds_toArray, List.set_cons_zero, List.set_cons_succ])
        refine wpAnyH_take (i := 5) (oi := ?_) (v := ?_) (by simp only [List.getElem?_toArray, List.getElem?_cons_succ, List.getElem?_cons_zero]; rfl) (by kernel_rfl) (by kernel_rfl) (by kernel_rfl) ?_ (Or.inl ⟨by rfl, ?_⟩) hHeld ?_
        rotate_left 1
        focus exact fun _ _ _ h => h
        focus (intro w hSw; (try dsimp only at hSw); go_simp; try with_reducible rfl)
        (try simp only [Act.put, List.setIfInBounds_toArray, List.set_cons_zero, List.set_cons_succ])
        refine wpAnyH_take (i := 6) (oi := ?_) (v := ?_) (by simp only [List.getElem?_toArray, List.getElem?_cons_succ, List.getElem?_cons_zero]; rfl) (by kernel_rfl) (by kernel_rfl) (by kernel_rfl) ?_ (Or.inl ⟨by rfl, ?_⟩) hHeld ?_
        rotate_left 1
        focus exact fun _ _ _ h => h
        focus (intro w hSw; (try dsimp only at hSw); go_simp; try with_reducible rfl)
        (try simp only [Act.put, List.setIfInBounds_toArray, List.set_cons_zero, List.set_cons_succ])
        refine wpAnyH_take (i := 7) (oi := ?_) (v := ?_) (by simp only [List.getElem?_toArray, List.getElem?_cons_succ, List.getElem?_cons_zero]; rfl) (by kernel_rfl) (by kernel_rfl) (by kernel_rfl) ?_ (Or.inl ⟨by rfl, ?_⟩) hHeld ?_
        rotate_left 1
        focus exact fun _ _ _ h => h
        focus (intro w hSw; (try dsimp only at hSw); go_simp; try with_reducible rfl)
        (try simp only [Act.put, List.setIfInBounds_toArray, List.set_cons_zero, List.set_cons_succ])
        refine wpAnyH_take (i := 8) (oi := ?_) (v := ?_) (by simp only [List.getElem?_toArray, List.getElem?_cons_succ, List.getElem?_cons_zero]; rfl) (by kernel_rfl) (by kernel_rfl) (by kernel_rfl) ?_ (Or.inl ⟨by rfl, ?_⟩) hHeld ?_
        rotate_left 1
        focus exact fun _ _ _ h => h
        focus (intro w hSw; (try dsimp only at hSw); go_simp; try with_reducible rfl)
        (try simp only [Act.put, List.setIfInBounds_toArray, List.set_cons_zero, List.set_cons_succ])
        refine wpAnyH_take (i := 9) (oi := ?_) (v := ?_) (by simp only [List.getElem?_toArray, List.getElem?_cons_succ, List.getElem?_cons_zero]; rfl) (by kernel_rfl) (by kernel_rfl) (by kernel_rfl) ?_ (Or.inl ⟨by rfl, ?_⟩) hHeld ?_
        rotate_left 1
        focus exact fun _ _ _ h => h
        focus (intro w hSw; (try dsimp only at hSw); go_simp; try with_reducible rfl)
        (try simp only [Act.put, List.setIfInBounds_toArray, List.set_cons_zero, List.set_cons_succ])
        refine wpAnyH_take (i := 10) (oi := ?_) (v := ?_) (by simp only [List.getElem?_toArray, List.getElem?_cons_succ, List.getElem?_cons_zero]; rfl) (by kernel_rfl) (by kernel_rfl) (by kernel_rfl) ?_ (Or.inl ⟨by rfl, ?_⟩) hHeld ?_
        rotate_left 1
        focus exact fun _ _ _ h => h
        focus (intro w hSw; (try dsimp only at hSw); go_simp; try with_reducible rfl)
        (try simp only [Act.put, List.setIfInBounds_toArray, List.set_cons_zero, List.set_cons_succ])
        refine wpAnyH_take (i := 11) (oi := ?_) (v := ?_) (by simp only [List.getElem?_toArray, List.getElem?_cons_succ, List.getElem?_cons_zero]; rfl) (by kernel_rfl) (by kernel_rfl) (by kernel_rfl) ?_ (Or.inl ⟨by rfl, ?_⟩) hHeld ?_
        rotate_left 1
        focus exact fun _ _ _ h => h
        focus (intro w hSw; (try dsimp only at hSw); go_simp; try with_reducible rfl)
        (try simp only [Act.put, List.setIfInBounds_toArray, List.set_cons_zero, List.set_cons_succ])
        refine wpAnyH_ready (rs := [12]) (by kernel_rfl) (by simp) ?_
        refine AllReadyH.cons (o := ?_) (by simp only [List.getElem?_toArray, List.getElem?_cons_succ, List.getElem?_cons_zero]; rfl) (fun K hK => ?_) AllReadyH.nil
        go_simp
        (go_at_call 85; refine CH.mono ?_; rintro e w2 ⟨rfl, rfl⟩)
        go_wp2_with fail
        refine hK.out _ _ (⟨c1, c2⟩) (fun hHeld => ?_)
        clear hK K
        (try simp only [Act.put, List.setIfInBounds_toArray, List.set_cons_zero, List.set_cons_succ])
        refine wpAnyH_ready (rs := [13]) (by kernel_rfl) (by simp) ?_
        refine AllReadyH.cons (o := ?_) (by simp only [List.getElem?_toArray, List.getElem?_cons_succ, List.getElem?_cons_zero]; rfl) (fun K hK => ?_) AllReadyH.nil
        go_simp
        refine hK.out _ _ (⟨cell_alloc (show wr.drew.cell? _ = _ from c1) _, cell_alloc (show wr.drew.cell? _ = _ from c2) _⟩) (fun hHeld => ?_)
        clear hK K
        (try simp only [Act.put, List.setIfInBounds_toArray, List.set_cons_zero, List.set_cons_succ])
        refine wpAnyH_ready (rs := [14]) (by kernel_rfl) (by simp) ?_
        refine AllReadyH.cons (o := ?_) (by simp only [List.getElem?_toArray, List.getElem?_cons_succ, List.getElem?_cons_zero]; rfl) (fun K hK => ?_) AllReadyH.nil
        (refine step_appB _ (by rfl) _ _ _ (by rfl) w.heap.size 4 i0 _ 1 1 Try.underlying127 hi hz0 hz1 hz2' rfl (by omega) (.slice A' q c') q (bCells s) (by rfl) (ho.drew.alloc (Obj.cells #[.bool pb] 4)) _ 1 1 [.bool pb] (by rfl) (by first | exact RS_new (by simp) | exact (RS_new (by simp)).drewN 1) (by simp [Value.oneCell']) (by unfold maxLen; omega) (by omega) (Nat.le_trans hz (Below.size (Below.drew (below_box wr _)))) ?_; intro A6 c6 w6 o6 g6 at6 b6)
        rw [bCells_snoc] at o6
        have BN := Lib.hid ((HB.out.trans (((Below.refl wr.heap.size wr).drew.alloc (Nat.le_refl _) (Obj.cells #[.bool pb] 4)).mono hz)).trans b6)
        clear g6 at6 b6
        have C6 : w6.cell? ⟨g, off + k * 3 + 1, none⟩ = some (.string opt) ∧ w6.cell? ⟨g, off + k * 3 + 2, none⟩ = some (.string val) := by
          obtain ⟨g', off', he, y, hy, d0, d1, d2⟩ := (hr.below BN.out).cnAt hlt
          obtain ⟨rfl, rfl⟩ : g = g' ∧ off = off' := by simpa using he
          rw [HX.out] at hy
          injection hy with hy
          subst hy
          exact ⟨d1, d2⟩
        refine hK.out _ _ (C6) (fun hHeld => ?_)
        clear hK K
        (try simp only [Act.put, List.setIfInBounds_toArray, List.set_cons_zero, List.set_cons_succ])
        refine wpAnyH_take (i := 15) (oi := ?_) (v := ?_) (by simp only [List.getElem?_toArray, List.getElem?_cons_succ, List.getElem?_cons_zero]; rfl) (by kernel_rfl) (by kernel_rfl) (by kernel_rfl) ?_ (Or.inl ⟨by rfl, ?_⟩) hHeld ?_
        rotate_left 1
        focus exact fun _ _ _ h => h
        focus (intro w hSw; (try dsimp only at hSw); go_simp; try with_reducible rfl)
        (try simp only [Act.put, List.setIfInBounds_toArray, List.set_cons_zero, List.set_cons_succ])
        refine wpAnyH_done (by kernel_rfl) ?_ _
        clear hHeld C6 CH c1 c2 c0
        go_wp2_with fail
        go_roundw
        case rel => exact ⟨k + 1, _, A6, q + 1, c6, by omega, by go_num, rfl, by rw [QL.out]; simp, by omega, o6, BN.out, NX⟩
        case measure => simp [intOf]; omega
      · rw [hn] at ND
        clear hn
        obtain ⟨p, rfl⟩ : ∃ p, q = p + 1 := ⟨q - 1, by omega⟩
        obtain ⟨b, hb0⟩ : ∃ b, s[p]? = some b := ⟨_, List.getElem?_eq_getElem (by have := QL.out; omega)⟩
        rw [evStep_2 QL.out.symm hb0] at NX
        obtain ⟨gs, rfl, hg1, hg2, hcs, hfs⟩ := own_addr ho (by omega)
        have SS := ho.stored p (.bool !b)
        have d0 : wr.cell? ⟨gs, p, none⟩ = some (.bool b) := by rw [hcs p (by omega)]; exact bCells_at hb0
        have f0 := hfs p
        rw [bCells_set, set_last _ QL.out.symm] at SS
        have BN := Lib.hid (show Below w.heap.size w (wr.setCell ⟨gs, p, none⟩ (.bool !b)) from HB.out.setCell hg1 _)
        have OS := Lib.hid SS.1
        have j1 : (0 : Int) ≤ ((p + 1 : Nat) : Int) - 1 := by omega
        have j2 : ((p + 1 : Nat) : Int) - 1 < ((p + 1 : Nat) : Int) := by omega
        have j3 : (((p + 1 : Nat) : Int) - 1).toNat = p := by omega
        clear hcs hfs hb0 ho SS HB
        go_wp2_with fail
        go_roundw
        case rel => exact ⟨k + 1, _, _, p + 1, c', by omega, by go_num, rfl, by simp; have := QL.out; omega, by omega, OS.out, BN.out, NX⟩
        case measure => simp [intOf]; omega
      · rw [hn] at ND
        clear hn
        obtain ⟨p, rfl⟩ : ∃ p, q = p + 2 := ⟨q - 2, by omega⟩
        obtain ⟨b, hb0⟩ : ∃ b, s[p]? = some b := ⟨_, List.getElem?_eq_getElem (by have := QL.out; omega)⟩
        obtain ⟨b', hb1⟩ : ∃ b', s[p + 1]? = some b' := ⟨_, List.getElem?_eq_getElem (by have := QL.out; omega)⟩
        rw [evStep_3 QL.out.symm hb0 hb1] at NX
        obtain ⟨gs, rfl, hg1, hg2, hcs, hfs⟩ := own_addr ho (by omega)
        have d0 : wr.cell? ⟨gs, p, none⟩ = some (.bool b) := by rw [hcs p (by omega)]; exact bCells_at hb0
        have d1 : wr.cell? ⟨gs, p + 1, none⟩ = some (.bool b') := by rw [hcs (p + 1) (by omega)]; exact bCells_at hb1
        have f0 := hfs p
        have SS := (ho.stored p (.bool (b && b'))).1
        rw [bCells_set] at SS
        have OS0 := own_pre SS (show p + 1 ≤ p + 2 by omega)
        rw [bCells_take, set_take _ (by have := QL.out; omega)] at OS0
        have OS := Lib.hid OS0
        have BN := Lib.hid (show Below w.heap.size w (wr.setCell ⟨gs, p, none⟩ (.bool (b && b'))) from HB.out.setCell hg1 _)
        have cp := (own_capB ho).1
        have cp1 : (p : Int) + 1 ≤ c' := by omega
        have cp0 : (0 : Int) ≤ p := by omega
        have wp0 : IntKind.i64.wrap (p : Int) = p := IntWalk.i64_in _ (by omega)
        have wp1 : IntKind.i64.wrap ((p : Int) + 1) = p + 1 := IntWalk.i64_in _ (by omega)
        have wp6 : IntKind.i64.wrap ((p : Int) + 2 - 1) = p + 1 := by rw [show (p : Int) + 2 - 1 = p + 1 by omega]; exact wp1
        have wp2 : (0 : Int) ≤ (p : Int) + 1 := by omega
        have wp3 : (p : Int) + 1 < p + 2 := by omega
        have wp4 : (p : Int) < p + 2 := by omega
        have wp5 : ((p : Int) + 1).toNat = p + 1 := by omega
        have j1 : (0 : Int) ≤ ((p + 2 : Nat) : Int) - 1 := by omega
        have j2 : ((p + 2 : Nat) : Int) - 1 < ((p + 2 : Nat) : Int) := by omega
        have j3 : (((p + 2 : Nat) : Int) - 1).toNat = p + 1 := by omega
        have j4 : (0 : Int) ≤ ((p + 2 : Nat) : Int) - 2 := by omega
        have j5 : ((p + 2 : Nat) : Int) - 2 < ((p + 2 : Nat) : Int) := by omega
        have j6 : (((p + 2 : Nat) : Int) - 2).toNat = p := by omega
        clear hcs hfs hb0 hb1 ho HB SS OS0
        cases b
        · replace OS := Lib.hid (show (wr.setCell ⟨gs, p, none⟩ (.bool false)).ownsRow w.heap.size 4 1 (.slice (some ⟨gs, 0, none⟩) (p + 1) c') (p + 1) (bCells (s.take p ++ [false])) by have := OS.out; simpa using this)
          replace BN := Lib.hid (show Below w.heap.size w (wr.setCell ⟨gs, p, none⟩ (.bool false)) by have := BN.out; simpa using this)
          replace NX : EvRel ch l (k + 1) (s.take p ++ [false]) := by have := NX.out; simpa using this
          go_wp2_with fail
          go_roundw
          case rel => exact ⟨k + 1, _, _, p + 1, c', by omega, by go_num, rfl, by simp; have := QL.out; omega, by omega, OS.out, BN.out, NX⟩
          case measure => simp [intOf]; omega
        · replace OS := Lib.hid (show (wr.setCell ⟨gs, p, none⟩ (.bool b')).ownsRow w.heap.size 4 1 (.slice (some ⟨gs, 0, none⟩) (p + 1) c') (p + 1) (bCells (s.take p ++ [b'])) by have := OS.out; simpa using this)
          replace BN := Lib.hid (show Below w.heap.size w (wr.setCell ⟨gs, p, none⟩ (.bool b')) by have := BN.out; simpa using this)
          replace NX : EvRel ch l (k + 1) (s.take p ++ [b']) := by have := NX.out; simpa using this
          go_wp2_with fail
          go_roundw
          case rel => exact ⟨k + 1, _, _, p + 1, c', by omega, by go_num, rfl, by simp; have := QL.out; omega, by omega, OS.out, BN.out, NX⟩
          case measure => simp [intOf]; omega
      · rw [hn] at ND
        clear hn
        obtain ⟨p, rfl⟩ : ∃ p, q = p + 2 := ⟨q - 2, by omega⟩
        obtain ⟨b, hb0⟩ : ∃ b, s[p]? = some b := ⟨_, List.getElem?_eq_getElem (by have := QL.out; omega)⟩
        obtain ⟨b', hb1⟩ : ∃ b', s[p + 1]? = some b' := ⟨_, List.getElem?_eq_getElem (by have := QL.out; omega)⟩
        rw [evStep_4 QL.out.symm hb0 hb1] at NX
        obtain ⟨gs, rfl, hg1, hg2, hcs, hfs⟩ := own_addr ho (by omega)
        have d0 : wr.cell? ⟨gs, p, none⟩ = some (.bool b) := by rw [hcs p (by omega)]; exact bCells_at hb0
        have d1 : wr.cell? ⟨gs, p + 1, none⟩ = some (.bool b') := by rw [hcs (p + 1) (by omega)]; exact bCells_at hb1
        have f0 := hfs p
        have SS := (ho.stored p (.bool (b || b'))).1
        rw [bCells_set] at SS
        have OS0 := own_pre SS (show p + 1 ≤ p + 2 by omega)
        rw [bCells_take, set_take _ (by have := QL.out; omega)] at OS0
        have OS := Lib.hid OS0
        have BN := Lib.hid (show Below w.heap.size w (wr.setCell ⟨gs, p, none⟩ (.bool (b || b'))) from HB.out.setCell hg1 _)
        have cp := (own_capB ho).1
        have cp1 : (p : Int) + 1 ≤ c' := by omega
        have cp0 : (0 : Int) ≤ p := by omega
        have wp0 : IntKind.i64.wrap (p : Int) = p := IntWalk.i64_in _ (by omega)
        have wp1 : IntKind.i64.wrap ((p : Int) + 1) = p + 1 := IntWalk.i64_in _ (by omega)
        have wp6 : IntKind.i64.wrap ((p : Int) + 2 - 1) = p + 1 := by rw [show (p : Int) + 2 - 1 = p + 1 by omega]; exact wp1
        have wp2 : (0 : Int) ≤ (p : Int) + 1 := by omega
        have wp3 : (p : Int) + 1 < p + 2 := by omega
        have wp4 : (p : Int) < p + 2 := by omega
        have wp5 : ((p : Int) + 1).toNat = p + 1 := by omega
        have j1 : (0 : Int) ≤ ((p + 2 : Nat) : Int) - 1 := by omega
        have j2 : ((p + 2 : Nat) : Int) - 1 < ((p + 2 : Nat) : Int) := by omega
        have j3 : (((p + 2 : Nat) : Int) - 1).toNat = p + 1 := by omega
        have j4 : (0 : Int) ≤ ((p + 2 : Nat) : Int) - 2 := by omega
        have j5 : ((p + 2 : Nat) : Int) - 2 < ((p + 2 : Nat) : Int) := by omega
        have j6 : (((p + 2 : Nat) : Int) - 2).toNat = p := by omega
        clear hcs hfs hb0 hb1 ho HB SS OS0
        cases b
        · replace OS := Lib.hid (show (wr.setCell ⟨gs, p, none⟩ (.bool b')).ownsRow w.heap.size 4 1 (.slice (some ⟨gs, 0, none⟩) (p + 1) c') (p + 1) (bCells (s.take p ++ [b'])) by have := OS.out; simpa using this)
          replace BN := Lib.hid (show Below w.heap.size w (wr.setCell ⟨gs, p, none⟩ (.bool b')) by have := BN.out; simpa using this)
          replace NX : EvRel ch l (k + 1) (s.take p ++ [b']) := by have := NX.out; simpa using this
          go_wp2_with fail
          go_roundw
          case rel => exact ⟨k + 1, _, _, p + 1, c', by omega, by go_num, rfl, by simp; have := QL.out; omega, by omega, OS.out, BN.out, NX⟩
          case measure => simp [intOf]; omega
        · replace OS := Lib.hid (show (wr.setCell ⟨gs, p, none⟩ (.bool true)).ownsRow w.heap.size 4 1 (.slice (some ⟨gs, 0, none⟩) (p + 1) c') (p + 1) (bCells (s.take p ++ [true])) by have := OS.out; simpa using this)
          replace BN := Lib.hid (show Below w.heap.size w (wr.setCell ⟨gs, p, none⟩ (.bool true)) by have := BN.out; simpa using this)
          replace NX : EvRel ch l (k + 1) (s.take p ++ [true]) := by have := NX.out; simpa using this
          go_wp2_with fail
          go_roundw
          case rel => exact ⟨k + 1, _, _, p + 1, c', by omega, by go_num, rfl, by simp; have := QL.out; omega, by omega, OS.out, BN.out, NX⟩
          case measure => simp [intOf]; omega
      · rw [hn] at ND
        exact absurd ND.1 (by omega)
    · obtain rfl : n = k := by omega
      obtain ⟨b, hs, he⟩ := evRel_end hE.out (by rw [hl.out]; exact Nat.le_refl _)
      have q1 := QL.out
      rw [hs] at q1 ho
      replace q1 : q = 1 := q1
      subst q1
      have RR := Lib.hid he
      clear hs he hE QL
      obtain ⟨gs, rfl, _, _, hcs, _⟩ := own_addr ho (by omega)
      have c0 : wr.cell? ⟨gs, 0, none⟩ = some (.bool b) := by rw [hcs 0 (by omega)]; rfl
      clear hcs ho
      go_wp2_with fail
      go_ret
      exact ⟨ret_bool (by rw [RR.out]), hb⟩
end Go.Proofs.Ytnhkpdaogclfjaa
