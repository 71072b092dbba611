/- Conditions decided: the walk of the program's Holds. No condition. -/
import Derived.Test.YtnhkpdaogclfjaaHoldsP
import Derived.Test.YtnhkpdaogclfjaaCondW
import Derived.Deep.RegionLaw
import Derived.Deep.DeepCutAuto
import Derived.Deep.AppendLies
import Derived.Deep.RegionHeld3
namespace Go.Proofs.Ytnhkpdaogclfjaa
open Go.ChangeShapes Go.WideShapes Go.ChangeAt Go.RowKit

theorem own_capB {w : World} {base size n c : Nat} {e : TypeId} {A : Option Addr} {xs : List Value} (h : w.ownsRow base e size (.slice A n c) n xs) : n ≤ c ∧ c ≤ maxLen := by
  obtain ⟨A', c', hv, h1, h2⟩ := own_slice h
  injection hv with _ _ h3
  subst h3
  exact ⟨h1, h2⟩
/-- An append as one step of a region that draws its order. -/
theorem step_appB {P : Program} (w : World) {ops : Array Oper} {o : Oper} {a : Act} {K : Act → World → Prop} {Q : Exit → Act → World → Prop} {E : Prop} (hgd : o.guard = none) (s x : Operand) (t : TypeId)
    (ho : o.op = .call { callee := .builtin .append, args := #[s, x], argTypes := #[t, t] })
    (base : Nat) (e : TypeId) (i : TypeInfo) (z : Value) (size bytes : Nat) (ht : P.underlying t = some (.slice e)) (hi : P.info? e = some i) (hz : i.zero = some z)
    (hsize : i.size = size) (hby : i.bytes = bytes) (hzs : z.cells.size = size) (hsz : 0 < size)
    (v : Value) (n : Nat) (xs : List Value) (hs : a.eval s = v) (hown : w.ownsRow base e size v n xs)
    (A : Option Addr) (m c : Nat) (news : List Value) (hx : a.eval x = .slice A m c) (hr : RS w size A m news) (h1 : ∀ u ∈ news, u.oneCell' = true)
    (h63 : n + m ≤ maxLen) (hbytes : (n + m) * bytes ≤ 140737488355328) (hbase : base ≤ w.heap.size)
    (h : ∀ A' c' w', w'.ownsRow base e size (.slice A' (n + m) c') (n + m) (xs ++ news) → w.grownBy w' v.ownBlock → ((Value.slice A' (n + m) c').ownBlock = v.ownBlock ∨ (Value.slice A' (n + m) c').ownBlock = some w.heap.size) → Below base w w' →
      K (a.put o.dst (.slice A' (n + m) c')) w') :
    if Region.wanted o (yielded ops a.tmps) = true then Oper.wp P o a w K Q else E := by
  have hw : Region.wanted o (yielded ops a.tmps) = true := by simp [Region.wanted, hgd]
  rw [if_pos hw]
  exact wp_app w s x t ho base e i z size bytes ht hi hz hsize hby hzs hsz v n xs hs hown A m c news hx hr h1 h63 hbytes hbase h
set_option maxRecDepth 100000 in
set_option maxHeartbeats 8000000 in
theorem implHolds (A : Option Addr) (n c : Nat) (l : List Cn) (B : Option Addr) (m d : Nat) (ch : List Pk) (w : World) (hr : RS w 3 A n (l.flatMap cnCell)) (hn : n ≤ 9223372036854775807) (hok : ∀ x ∈ l, cnOk x) (hrp : RS w 2 B m (ch.flatMap pkCell)) (hm : m ≤ 9223372036854775807) :
    Calls Try.prog 70 #[.slice A n c, .slice B m d] w fun e w' => e = .returned (.bool (holds l ch)) ∧ Below w.heap.size w w' := by
  have hl := Lib.hid (hr.flatLen cnCell_len (by omega))
  have hlp := Lib.hid (hrp.flatLen pkCell_len (by omega))
  obtain ⟨i0, hi, hz0, hz1, hz2'⟩ := info_parts boolInfo
  cases hic : isCond l
  · have R := Lib.hid (show holds l ch = false by simp [holds, hic])
    go_enter Try.func70, Try.ntmps70
    go_wp2_with (go_at_call 68; refine (implIsCond _ _ _ l _ hr hn hok).mono ?_; rw [hic]; rintro e w1 ⟨rfl, hb1⟩)
    go_ret
    exact ⟨ret_bool R.out.symm, hb1⟩
  have R := Lib.hid (holds_of (ch := ch) hic)
  have ST := Lib.hid (evRel_start (ch := ch) hic)
  have h30 : n ≤ 30 := by
    simp only [isCond, Bool.and_eq_true, decide_eq_true_eq] at hic
    have := hl.out; omega
  have HIC := Lib.hid hic
  clear hic
  go_enter Try.func70, Try.ntmps70
  go_wp2_with fail
  refine (implIsCond _ _ _ l _ hr hn hok).mono ?_; rw [HIC.out]; rintro e w1 ⟨rfl, hb1⟩
  have O1 := own_empty w1 w.heap.size 4 1 hb1.size
  have B1 := Lib.hid (hb1.alloc hb1.size (Obj.cells #[] 4))
  clear hb1 hok HIC
  go_wp2_with fail
  go_loopw [5, 18] (fun st i wr => ∃ (k : Nat) (s : List Bool) (A' : Option Addr) (q c' : Nat), k ≤ n ∧ i = .int .i64 k ∧ st = .slice A' q c' ∧ q = s.length ∧ q ≤ k ∧ wr.ownsRow w.heap.size 4 1 (.slice A' q c') q (bCells s) ∧ Below w.heap.size w wr ∧ Hid (EvRel ch l k s)) (fun _ i _ => n - (intOf i).toNat)
  case atStart => exact ⟨0, [], _, 0, _, Nat.zero_le _, rfl, rfl, rfl, Nat.le_refl _, O1, B1.out, ST⟩
  case round =>
    obtain ⟨k, s, A', q, c', hk, rfl, rfl, hq, hqk, ho, hb, hE⟩ := hrel
    have QL := Lib.hid hq; clear hq
    clear O1 B1
    have hz := hb.size
    by_cases hlt : k < n
    · obtain ⟨g, off, rfl, ⟨kind, opt, val⟩, hx, c0, c1, c2⟩ := (hr.below hb).cnAt hlt
      simp only at c0 c1 c2
      have ND := evRel_need hE.out hx
      have NX := Lib.hid (evRel_step hE.out hx)
      simp only at ND
      rw [← QL.out] at ND
      clear hx
      have i1 : (0 : Int) ≤ k := by omega
      have i2 : (k : Int) < n := by omega
      have bx := below_box wr (Obj.cells #[.int .i64 kind, .string opt, .string val] 126)
      have HB := Lib.hid (below_then hb bx)
      rcases cnNeed_kinds kind with ⟨rfl, hn⟩ | ⟨rfl, hn⟩ | ⟨rfl, hn⟩ | ⟨rfl, hn⟩ | ⟨rfl, hn⟩ | ⟨n0, n1, n2, n3, n4, hn⟩
      · clear hn ND
        rw [evStep_0] at NX
        have oo := (ho.alloc (Obj.cells #[.int .i64 0, .string opt, .string val] 126)).alloc (Obj.cells #[.bool true] 4)
        go_wp2_with (at_builtin; refine wpList_app _ rfl _ _ _ rfl w.heap.size 4 i0 _ 1 1 Try.underlying127 hi hz0 hz1 hz2' rfl (by omega) _ q (bCells s) rfl oo _ 1 1 [.bool true] rfl (RS_new2 (by simp)) (by simp [Value.oneCell']) (by unfold maxLen; omega) (by omega) (by simp; omega) ?_; intro A4 c4 w4 o4 g4 at4 b4)
        rw [bCells_snoc] at o4
        have BN := Lib.hid ((below_then hb (below_then bx (below_box _ (Obj.cells #[.bool true] 4)))).trans b4)
        clear g4 at4 b4 oo
        go_roundw
        case rel => exact ⟨k + 1, _, A4, q + 1, c4, by omega, by go_num, rfl, by rw [QL.out]; simp, by omega, o4, BN.out, NX⟩
        case measure => simp [intOf]; omega
      · clear hn ND
        rw [evStep_1] at NX
        obtain ⟨U, hU⟩ : ∃ U, U = wr.alloc (Obj.cells #[.int .i64 1, .string opt, .string val] 126) := ⟨_, rfl⟩
        have X0 := Lib.hid (show U.heap[wr.heap.size]? = some (Obj.cells #[.int .i64 1, .string opt, .string val] 126 (0, 0)) by rw [hU]; exact blk_new1 _ _)
        have BU := Lib.hid (show Below w.heap.size w U by rw [hU]; exact HB.out)
        have zU : wr.heap.size < U.heap.size := by rw [hU, World.size_alloc]; omega
        have OU := Lib.hid (show U.ownsRow w.heap.size 4 1 (.slice A' q c') q (bCells s) by rw [hU]; exact ho.alloc _)
        clear ho HB bx
        go_upto_region 14 with fail
        rw [← hU]
        clear hU
        obtain ⟨xb, hxb⟩ : ∃ xb, xb = wr.heap.size := ⟨_, rfl⟩
        rw [← hxb] at X0 zU ⊢
        clear hxb
        have PK := Lib.hid (show picked ch ⟨1, opt, val⟩ = (ch.take m).any (pickHit ⟨1, opt, val⟩) by rw [picked, List.take_of_length_le (by rw [hlp.out]; exact Nat.le_refl _)])
        go_loopw [9, 35] (fun sm i wz => ∃ j : Nat, j ≤ m ∧ i = .int .i64 j ∧ sm = .bool ((ch.take j).any (pickHit ⟨1, opt, val⟩)) ∧ Below U.heap.size U wz) (fun _ i _ => m - (intOf i).toNat)
        case atStart => exact ⟨0, Nat.zero_le _, rfl, by simp, Below.refl _ _⟩
        case round =>
          obtain ⟨j, hj, rfl, rfl, hz2⟩ := hrel
          by_cases hlt2 : j < m
          · obtain ⟨g', off', rfl, ⟨po, pv⟩, hx2, p0, p1⟩ := ((hrp.below BU.out).below hz2).pkAt hlt2
            simp only at p0 p1
            have AT := Lib.hid (any_take (p := pickHit ⟨1, opt, val⟩) hx2)
            clear hx2
            have XB := blk_keep hz2 X0.out
            have x1 := blk_at XB (j := 1) rfl; have x2 := blk_at XB (j := 2) rfl
            have k1 : (0 : Int) ≤ j := by omega
            have k2 : (j : Int) < m := by omega
            have HZ := Lib.hid (below_then hz2 (below_box _ (Obj.cells #[.string po, .string pv] 86)))
            obtain ⟨sb, hsb⟩ : ∃ sb, sb = (ch.take j).any (pickHit ⟨1, opt, val⟩) := ⟨_, rfl⟩
            rw [← hsb] at AT ⊢
            have zw := Nat.lt_of_lt_of_le zU hz2.size
            clear hsb XB hz2
            cases sb
            · by_cases e1 : po = opt
              · subst e1
                by_cases e2 : pv = val
                · subst e2
                  have AN := Lib.hid (show (ch.take (j + 1)).any (pickHit ⟨1, po, pv⟩) = true by rw [AT.out]; simp [pickHit])
                  go_wp2_with fail
                  go_roundw
                  case rel => exact ⟨j + 1, by omega, by go_num, by rw [AN.out], HZ.out⟩
                  case measure => simp [intOf]; omega
                · have AN := Lib.hid (show (ch.take (j + 1)).any (pickHit ⟨1, po, val⟩) = false by rw [AT.out]; simp [pickHit, e2])
                  have ne := text_ne e2
                  have ne3 : (pv.toList == val.toList) = false := by simpa using ne
                  clear e2
                  go_wp2_with fail
                  go_roundw
                  case rel => exact ⟨j + 1, by omega, by go_num, by rw [AN.out], HZ.out⟩
                  case measure => simp [intOf]; omega
              · have AN := Lib.hid (show (ch.take (j + 1)).any (pickHit ⟨1, opt, val⟩) = false by rw [AT.out]; simp [pickHit, e1])
                have ne := text_ne e1
                clear e1
                go_wp2_with fail
                go_roundw
                case rel => exact ⟨j + 1, by omega, by go_num, by rw [AN.out], HZ.out⟩
                case measure => simp [intOf]; omega
            · have AN := Lib.hid (show (ch.take (j + 1)).any (pickHit ⟨1, opt, val⟩) = true by rw [AT.out]; rfl)
              go_wp2_with fail
              go_roundw
              case rel => exact ⟨j + 1, by omega, by go_num, by rw [AN.out], HZ.out⟩
              case measure => simp [intOf]; omega
          · obtain rfl : m = j := by omega
            rw [← PK.out]
            obtain ⟨pb, hpb⟩ : ∃ pb, pb = picked ch ⟨1, opt, val⟩ := ⟨_, rfl⟩
            rw [← hpb] at NX ⊢
            have oo := ((own_below OU.out hz2).alloc (Obj.cells #[.bool pb] 4))
            have zz := hz2.size; have zb := BU.out.size
            clear hpb PK X0
            go_wp2_with (at_builtin; refine wpList_app _ rfl _ _ _ rfl w.heap.size 4 i0 _ 1 1 Try.underlying127 hi hz0 hz1 hz2' rfl (by omega) _ q (bCells s) rfl oo _ 1 1 [.bool pb] rfl (RS_new (by simp)) (by simp [Value.oneCell']) (by unfold maxLen; omega) (by omega) (by simp; omega) ?_; intro A4 c4 w4 o4 g4 at4 b4)
            rw [bCells_snoc] at o4
            have BN := Lib.hid ((below_then (below_app BU.out hz2 BU.out.size) (below_box _ (Obj.cells #[.bool pb] 4))).trans b4)
            clear g4 at4 b4 oo
            go_roundw
            case rel => exact ⟨k + 1, _, A4, q + 1, c4, by omega, by go_num, rfl, by rw [QL.out]; simp, by omega, o4, BN.out, NX⟩
            case measure => simp [intOf]; omega
      · rw [hn] at ND
        clear hn
        obtain ⟨p, rfl⟩ : ∃ p, q = p + 1 := ⟨q - 1, by omega⟩
        obtain ⟨b, hb0⟩ : ∃ b, s[p]? = some b := ⟨_, List.getElem?_eq_getElem (by have := QL.out; omega)⟩
        rw [evStep_2 QL.out.symm hb0] at NX
        obtain ⟨gs, rfl, hg1, hg2, hcs, hfs⟩ := own_addr (ho.alloc (Obj.cells #[.int .i64 2, .string opt, .string val] 126)) (by omega)
        obtain ⟨U, hU⟩ : ∃ U, U = wr.alloc (Obj.cells #[.int .i64 2, .string opt, .string val] 126) := ⟨_, rfl⟩
        have SS := (ho.alloc (Obj.cells #[.int .i64 2, .string opt, .string val] 126)).stored p (.bool !b)
        rw [← hU] at SS hcs hfs
        have d0 : U.cell? ⟨gs, p, none⟩ = some (.bool b) := by rw [hcs p (by omega)]; exact bCells_at hb0
        have f0 := hfs p
        rw [bCells_set, set_last _ QL.out.symm] at SS
        have BN := Lib.hid (show Below w.heap.size w (U.setCell ⟨gs, p, none⟩ (.bool !b)) by rw [hU]; exact HB.out.setCell hg1 _)
        have OS := Lib.hid SS.1
        have j1 : (0 : Int) ≤ ((p + 1 : Nat) : Int) - 1 := by omega
        have j2 : ((p + 1 : Nat) : Int) - 1 < ((p + 1 : Nat) : Int) := by omega
        have j3 : (((p + 1 : Nat) : Int) - 1).toNat = p := by omega
        clear hcs hfs hb0 ho SS HB bx
        go_upto_region 20 with fail
        rw [← hU]
        clear hU
        go_wp2_with fail
        go_roundw
        case rel => exact ⟨k + 1, _, _, p + 1, c', by omega, by go_num, rfl, by simp; have := QL.out; omega, by omega, OS.out, BN.out, NX⟩
        case measure => simp [intOf]; omega
      · rw [hn] at ND
        clear hn
        obtain ⟨p, rfl⟩ : ∃ p, q = p + 2 := ⟨q - 2, by omega⟩
        obtain ⟨b, hb0⟩ : ∃ b, s[p]? = some b := ⟨_, List.getElem?_eq_getElem (by have := QL.out; omega)⟩
        obtain ⟨b', hb1⟩ : ∃ b', s[p + 1]? = some b' := ⟨_, List.getElem?_eq_getElem (by have := QL.out; omega)⟩
        rw [evStep_3 QL.out.symm hb0 hb1] at NX
        have OA := ho.alloc (Obj.cells #[.int .i64 3, .string opt, .string val] 126)
        obtain ⟨gs, rfl, hg1, hg2, hcs, hfs⟩ := own_addr OA (by omega)
        obtain ⟨U, hU⟩ : ∃ U, U = wr.alloc (Obj.cells #[.int .i64 3, .string opt, .string val] 126) := ⟨_, rfl⟩
        rw [← hU] at OA hcs
        have d0 : U.cell? ⟨gs, p, none⟩ = some (.bool b) := by rw [hcs p (by omega)]; exact bCells_at hb0
        have d1 : U.cell? ⟨gs, p + 1, none⟩ = some (.bool b') := by rw [hcs (p + 1) (by omega)]; exact bCells_at hb1
        have OP := own_pre OA (show p ≤ p + 2 by omega)
        rw [bCells_take] at OP
        have BU := Lib.hid (show Below w.heap.size w U by rw [hU]; exact HB.out)
        have j1 : (0 : Int) ≤ ((p + 2 : Nat) : Int) - 1 := by omega
        have j2 : ((p + 2 : Nat) : Int) - 1 < ((p + 2 : Nat) : Int) := by omega
        have j3 : (((p + 2 : Nat) : Int) - 1).toNat = p + 1 := by omega
        have j4 : (0 : Int) ≤ ((p + 2 : Nat) : Int) - 2 := by omega
        have j5 : ((p + 2 : Nat) : Int) - 2 < ((p + 2 : Nat) : Int) := by omega
        have j6 : (((p + 2 : Nat) : Int) - 2).toNat = p := by omega
        have cp := (own_capB OA).1
        have cp1 : (p : Int) ≤ c' := by omega
        have cp0 : (0 : Int) ≤ p := by omega
        have wp0 : IntKind.i64.wrap (p : Int) = p := IntWalk.i64_in _ (by omega)
        have wp1 : IntKind.i64.wrap ((p : Int) + 1) = p + 1 := IntWalk.i64_in _ (by omega)
        have wp6 : IntKind.i64.wrap ((p : Int) + 2 - 1) = p + 1 := by rw [show (p : Int) + 2 - 1 = p + 1 by omega]; exact wp1
        have wp2 : (0 : Int) ≤ (p : Int) + 1 := by omega
        have wp3 : (p : Int) + 1 < p + 2 := by omega
        have wp4 : (p : Int) < p + 2 := by omega
        have wp5 : ((p : Int) + 1).toNat = p + 1 := by omega
        clear hcs hfs hb0 hb1 ho HB bx OA
        go_upto_region 22 with fail
        rw [← hU]
        clear hU
        cases b
        · have NY : EvRel ch l (k + 1) (s.take p ++ [false]) := by have := NX.out; simpa using this
          refine wp_region_held_drew (S := fun _ => True) (by kernel_rfl) trivial (fun hHeld => ?_)
          refine wpAnyH_take (i := 0) (oi := ?_) (v := ?_) (by simp only [List.getElem?_toArray, List.getElem?_cons_zero]; rfl) (by kernel_rfl) (by kernel_rfl) (by kernel_rfl) ?_ (Or.inl ⟨by rfl, ?_⟩) hHeld ?_
          rotate_left 1
          focus exact fun _ _ _ h => h
          focus (intro w hSw; (try dsimp only at hSw); go_simp; try with_reducible rfl)
          (try simp only [Act.put, List.setIfInBounds_toArray, List.set_cons_zero, List.set_cons_succ])
          refine wpAnyH_take (i := 1) (oi := ?_) (v := ?_) (by simp only [List.getElem?_toArray, List.getElem?_cons_succ, List.getElem?_cons_zero]; rfl) (by kernel_rfl) (by kernel_rfl) (by kernel_rfl) ?_ (Or.inl ⟨by rfl, ?_⟩) hHeld ?_
          rotate_left 1
          focus exact fun _ _ _ h => h
          focus (intro w hSw; (try dsimp only at hSw); go_simp; try with_reducible rfl)
          (try simp only [Act.put, List.setIfInBounds_toArray, List.set_cons_zero, List.set_cons_succ])
          refine wpAnyH_take (i := 2) (oi := ?_) (v := ?_) (by simp only [List.getElem?_toArray, List.getElem?_cons_succ, List.getElem?_cons_zero]; rfl) (by kernel_rfl) (by kernel_rfl) (by kernel_rfl) ?_ (Or.inl ⟨by rfl, ?_⟩) hHeld ?_
          rotate_left 1
          focus exact fun _ _ _ h => h
          focus (intro w hSw; (try dsimp only at hSw); go_simp; try with_reducible rfl)
          (try simp only [Act.put, List.setIfInBounds_toArray, List.set_cons_zero, List.set_cons_succ])
          refine wpAnyH_take (i := 3) (oi := ?_) (v := ?_) (by simp only [List.getElem?_toArray, List.getElem?_cons_succ, List.getElem?_cons_zero]; rfl) (by kernel_rfl) (by kernel_rfl) (by kernel_rfl) ?_ (Or.inl ⟨by rfl, ?_⟩) hHeld ?_
          rotate_left 1
          focus exact fun _ _ _ h => h
          focus (intro w hSw; (try dsimp only at hSw); go_simp; try with_reducible rfl)
          (try simp only [Act.put, List.setIfInBounds_toArray, List.set_cons_zero, List.set_cons_succ])
          refine wpAnyH_take (i := 4) (oi := ?_) (v := ?_) (by simp only [List.getElem?_toArray, List.getElem?_cons_succ, List.getElem?_cons_zero]; rfl) (by kernel_rfl) (by kernel_rfl) (by kernel_rfl) ?_ (Or.inl ⟨by rfl, ?_⟩) hHeld ?_
          rotate_left 1
          focus exact fun _ _ _ h => h
          focus (intro w hSw; (try dsimp only at hSw); go_simp; try with_reducible rfl)
          (try simp only [Act.put, List.setIfInBounds_toArray, List.set_cons_zero, List.set_cons_succ])
          refine wpAnyH_take (i := 5) (oi := ?_) (v := ?_) (by simp only [List.getElem?_toArray, List.getElem?_cons_succ, List.getElem?_cons_zero]; rfl) (by kernel_rfl) (by kernel_rfl) (by kernel_rfl) ?_ (Or.inl ⟨by rfl, ?_⟩) hHeld ?_
          rotate_left 1
          focus exact fun _ _ _ h => h
          focus (intro w hSw; (try dsimp only at hSw); go_simp; try with_reducible rfl)
          (try simp only [Act.put, List.setIfInBounds_toArray, List.set_cons_zero, List.set_cons_succ])
          refine wpAnyH_take (i := 6) (oi := ?_) (v := ?_) (by simp only [List.getElem?_toArray, List.getElem?_cons_succ, List.getElem?_cons_zero]; rfl) (by kernel_rfl) (by kernel_rfl) (by kernel_rfl) ?_ (Or.inl ⟨by rfl, ?_⟩) hHeld ?_
          rotate_left 1
          focus exact fun _ _ _ h => h
          focus (intro w hSw; (try dsimp only at hSw); go_simp; try with_reducible rfl)
          (try simp only [Act.put, List.setIfInBounds_toArray, List.set_cons_zero, List.set_cons_succ])
          refine wpAnyH_take (i := 7) (oi := ?_) (v := ?_) (by simp only [List.getElem?_toArray, List.getElem?_cons_succ, List.getElem?_cons_zero]; rfl) (by kernel_rfl) (by kernel_rfl) (by kernel_rfl) ?_ (Or.inl ⟨by rfl, ?_⟩) hHeld ?_
          rotate_left 1
          focus exact fun _ _ _ h => h
          focus (intro w hSw; (try dsimp only at hSw); go_simp; try with_reducible rfl)
          (try simp only [Act.put, List.setIfInBounds_toArray, List.set_cons_zero, List.set_cons_succ])
          refine wpAnyH_ready (rs := [8]) (by kernel_rfl) (by simp) ?_
          refine AllReadyH.cons (o := ?_) (by simp only [List.getElem?_toArray, List.getElem?_cons_succ, List.getElem?_cons_zero]; rfl) (fun K hK => ?_) AllReadyH.nil
          go_simp
          refine hK.out _ _ (trivial) (fun hHeld => ?_)
          clear hK K
          (try simp only [Act.put, List.setIfInBounds_toArray, List.set_cons_zero, List.set_cons_succ])
          refine wpAnyH_take (i := 9) (oi := ?_) (v := ?_) (by simp only [List.getElem?_toArray, List.getElem?_cons_succ, List.getElem?_cons_zero]; rfl) (by kernel_rfl) (by kernel_rfl) (by kernel_rfl) ?_ (Or.inl ⟨by rfl, ?_⟩) hHeld ?_
          rotate_left 1
          focus exact fun _ _ _ h => h
          focus (intro w hSw; (try dsimp only at hSw); go_simp; try with_reducible rfl)
          (try simp only [Act.put, List.setIfInBounds_toArray, List.set_cons_zero, List.set_cons_succ])
          refine wpAnyH_take (i := 10) (oi := ?_) (v := undef) (by simp only [List.getElem?_toArray, List.getElem?_cons_succ, List.getElem?_cons_zero]; rfl) (by kernel_rfl) (by kernel_rfl) (by kernel_rfl) ?_ (Or.inr ⟨by rfl, rfl⟩) hHeld ?_
          focus exact fun _ _ _ h => h
          (try simp only [Act.put, List.setIfInBounds_toArray, List.set_cons_zero, List.set_cons_succ])
          refine wpAnyH_take (i := 11) (oi := ?_) (v := undef) (by simp only [List.getElem?_toArray, List.getElem?_cons_succ, List.getElem?_cons_zero]; rfl) (by kernel_rfl) (by kernel_rfl) (by kernel_rfl) ?_ (Or.inr ⟨by rfl, rfl⟩) hHeld ?_
          focus exact fun _ _ _ h => h
          (try simp only [Act.put, List.setIfInBounds_toArray, List.set_cons_zero, List.set_cons_succ])
          refine wpAnyH_take (i := 12) (oi := ?_) (v := undef) (by simp only [List.getElem?_toArray, List.getElem?_cons_succ, List.getElem?_cons_zero]; rfl) (by kernel_rfl) (by kernel_rfl) (by kernel_rfl) ?_ (Or.inr ⟨by rfl, rfl⟩) hHeld ?_
          focus exact fun _ _ _ h => h
          (try simp only [Act.put, List.setIfInBounds_toArray, List.set_cons_zero, List.set_cons_succ])
          refine wpAnyH_take (i := 13) (oi := ?_) (v := undef) (by simp only [List.getElem?_toArray, List.getElem?_cons_succ, List.getElem?_cons_zero]; rfl) (by kernel_rfl) (by kernel_rfl) (by kernel_rfl) ?_ (Or.inr ⟨by rfl, rfl⟩) hHeld ?_
          focus exact fun _ _ _ h => h
          (try simp only [Act.put, List.setIfInBounds_toArray, List.set_cons_zero, List.set_cons_succ])
          refine wpAnyH_take (i := 14) (oi := ?_) (v := undef) (by simp only [List.getElem?_toArray, List.getElem?_cons_succ, List.getElem?_cons_zero]; rfl) (by kernel_rfl) (by kernel_rfl) (by kernel_rfl) ?_ (Or.inr ⟨by rfl, rfl⟩) hHeld ?_
          focus exact fun _ _ _ h => h
          (try simp only [Act.put, List.setIfInBounds_toArray, List.set_cons_zero, List.set_cons_succ])
          refine wpAnyH_take (i := 15) (oi := ?_) (v := ?_) (by simp only [List.getElem?_toArray, List.getElem?_cons_succ, List.getElem?_cons_zero]; rfl) (by kernel_rfl) (by kernel_rfl) (by kernel_rfl) ?_ (Or.inl ⟨by rfl, ?_⟩) hHeld ?_
          rotate_left 1
          focus exact fun _ _ _ h => h
          focus (intro w hSw; (try dsimp only at hSw); go_simp; try with_reducible rfl)
          (try simp only [Act.put, List.setIfInBounds_toArray, List.set_cons_zero, List.set_cons_succ])
          refine wpAnyH_ready (rs := [16]) (by kernel_rfl) (by simp) ?_
          refine AllReadyH.cons (o := ?_) (by simp only [List.getElem?_toArray, List.getElem?_cons_succ, List.getElem?_cons_zero]; rfl) (fun K hK => ?_) AllReadyH.nil
          go_simp
          refine hK.out _ _ (trivial) (fun hHeld => ?_)
          clear hK K
          (try simp only [Act.put, List.setIfInBounds_toArray, List.set_cons_zero, List.set_cons_succ])
          refine wpAnyH_ready (rs := [17]) (by kernel_rfl) (by simp) ?_
          refine AllReadyH.cons (o := ?_) (by simp only [List.getElem?_toArray, List.getElem?_cons_succ, List.getElem?_cons_zero]; rfl) (fun K hK => ?_) AllReadyH.nil
          (refine step_appB _ (by rfl) _ _ _ (by rfl) w.heap.size 4 i0 _ 1 1 Try.underlying127 hi hz0 hz1 hz2' rfl (by omega) (.slice (some ⟨gs, 0, none⟩) p c') p (bCells (s.take p)) (by rfl) (by first | exact (OP.alloc (Obj.cells #[.bool false] 4)).drew | exact OP.drew.alloc (Obj.cells #[.bool false] 4)) _ 1 1 [.bool false] (by rfl) (by first | exact RS_new (by simp) | exact (RS_new (by simp)).drewN 1) (by simp [Value.oneCell']) (by unfold maxLen; omega) (by omega) (Nat.le_trans BU.out.size (Below.size (Below.drew (below_box U _)))) ?_; intro A6 c6 w6 o6 g6 at6 b6)
          rw [bCells_snoc] at o6
          have BN := Lib.hid ((BU.out.trans ((by first | exact ((Below.refl U.heap.size U).alloc (Nat.le_refl _) (Obj.cells #[.bool false] 4)).drew | exact (Below.refl U.heap.size U).drew.alloc (Nat.le_refl _) (Obj.cells #[.bool false] 4) : Below U.heap.size U _).mono BU.out.size)).trans b6)
          clear g6 at6 b6
          refine hK.out _ _ (trivial) (fun hHeld => ?_)
          clear hK K
          (try simp only [Act.put, List.setIfInBounds_toArray, List.set_cons_zero, List.set_cons_succ])
          refine wpAnyH_take (i := 18) (oi := ?_) (v := ?_) (by simp only [List.getElem?_toArray, List.getElem?_cons_succ, List.getElem?_cons_zero]; rfl) (by kernel_rfl) (by kernel_rfl) (by kernel_rfl) ?_ (Or.inl ⟨by rfl, ?_⟩) hHeld ?_
          rotate_left 1
          focus exact fun _ _ _ h => h
          focus (intro w hSw; (try dsimp only at hSw); go_simp; try with_reducible rfl)
          (try simp only [Act.put, List.setIfInBounds_toArray, List.set_cons_zero, List.set_cons_succ])
          refine wpAnyH_done (by kernel_rfl) ?_ _
          clear hHeld
          go_wp2_with fail
          go_roundw
          case rel => exact ⟨k + 1, _, A6, p + 1, c6, by omega, by go_num, rfl, by simp; have := QL.out; omega, by omega, o6, BN.out, NY⟩
          case measure => simp [intOf]; omega
        · have NY : EvRel ch l (k + 1) (s.take p ++ [b']) := by have := NX.out; simpa using this
          refine wp_region_held_drew (S := fun _ => True) (by kernel_rfl) trivial (fun hHeld => ?_)
          refine wpAnyH_take (i := 0) (oi := ?_) (v := ?_) (by simp only [List.getElem?_toArray, List.getElem?_cons_zero]; rfl) (by kernel_rfl) (by kernel_rfl) (by kernel_rfl) ?_ (Or.inl ⟨by rfl, ?_⟩) hHeld ?_
          rotate_left 1
          focus exact fun _ _ _ h => h
          focus (intro w hSw; (try dsimp only at hSw); go_simp; try with_reducible rfl)
          (try simp only [Act.put, List.setIfInBounds_toArray, List.set_cons_zero, List.set_cons_succ])
          refine wpAnyH_take (i := 1) (oi := ?_) (v := ?_) (by simp only [List.getElem?_toArray, List.getElem?_cons_succ, List.getElem?_cons_zero]; rfl) (by kernel_rfl) (by kernel_rfl) (by kernel_rfl) ?_ (Or.inl ⟨by rfl, ?_⟩) hHeld ?_
          rotate_left 1
          focus exact fun _ _ _ h => h
          focus (intro w hSw; (try dsimp only at hSw); go_simp; try with_reducible rfl)
          (try simp only [Act.put, List.setIfInBounds_toArray, List.set_cons_zero, List.set_cons_succ])
          refine wpAnyH_take (i := 2) (oi := ?_) (v := ?_) (by simp only [List.getElem?_toArray, List.getElem?_cons_succ, List.getElem?_cons_zero]; rfl) (by kernel_rfl) (by kernel_rfl) (by kernel_rfl) ?_ (Or.inl ⟨by rfl, ?_⟩) hHeld ?_
          rotate_left 1
          focus exact fun _ _ _ h => h
          focus (intro w hSw; (try dsimp only at hSw); go_simp; try with_reducible rfl)
          (try simp only [Act.put, List.setIfInBounds_toArray, List.set_cons_zero, List.set_cons_succ])
          refine wpAnyH_take (i := 3) (oi := ?_) (v := ?_) (by simp only [List.getElem?_toArray, List.getElem?_cons_succ, List.getElem?_cons_zero]; rfl) (by kernel_rfl) (by kernel_rfl) (by kernel_rfl) ?_ (Or.inl ⟨by rfl, ?_⟩) hHeld ?_
          rotate_left 1
          focus exact fun _ _ _ h => h
          focus (intro w hSw; (try dsimp only at hSw); go_simp; try with_reducible rfl)
          (try simp only [Act.put, List.setIfInBounds_toArray, List.set_cons_zero, List.set_cons_succ])
          refine wpAnyH_take (i := 4) (oi := ?_) (v := ?_) (by simp only [List.getElem?_toArray, List.getElem?_cons_succ, List.getElem?_cons_zero]; rfl) (by kernel_rfl) (by kernel_rfl) (by kernel_rfl) ?_ (Or.inl ⟨by rfl, ?_⟩) hHeld ?_
          rotate_left 1
          focus exact fun _ _ _ h => h
          focus (intro w hSw; (try dsimp only at hSw); go_simp; try with_reducible rfl)
          (try simp only [Act.put, List.setIfInBounds_toArray, List.set_cons_zero, List.set_cons_succ])
          refine wpAnyH_take (i := 5) (oi := ?_) (v := ?_) (by simp only [List.getElem?_toArray, List.getElem?_cons_succ, List.getElem?_cons_zero]; rfl) (by kernel_rfl) (by kernel_rfl) (by kernel_rfl) ?_ (Or.inl ⟨by rfl, ?_⟩) hHeld ?_
          rotate_left 1
          focus exact fun _ _ _ h => h
          focus (intro w hSw; (try dsimp only at hSw); go_simp; try with_reducible rfl)
          (try simp only [Act.put, List.setIfInBounds_toArray, List.set_cons_zero, List.set_cons_succ])
          refine wpAnyH_take (i := 6) (oi := ?_) (v := ?_) (by simp only [List.getElem?_toArray, List.getElem?_cons_succ, List.getElem?_cons_zero]; rfl) (by kernel_rfl) (by kernel_rfl) (by kernel_rfl) ?_ (Or.inl ⟨by rfl, ?_⟩) hHeld ?_
          rotate_left 1
          focus exact fun _ _ _ h => h
          focus (intro w hSw; (try dsimp only at hSw); go_simp; try with_reducible rfl)
          (try simp only [Act.put, List.setIfInBounds_toArray, List.set_cons_zero, List.set_cons_succ])
          refine wpAnyH_take (i := 7) (oi := ?_) (v := ?_) (by simp only [List.getElem?_toArray, List.getElem?_cons_succ, List.getElem?_cons_zero]; rfl) (by kernel_rfl) (by kernel_rfl) (by kernel_rfl) ?_ (Or.inl ⟨by rfl, ?_⟩) hHeld ?_
          rotate_left 1
          focus exact fun _ _ _ h => h
          focus (intro w hSw; (try dsimp only at hSw); go_simp; try with_reducible rfl)
          (try simp only [Act.put, List.setIfInBounds_toArray, List.set_cons_zero, List.set_cons_succ])
          refine wpAnyH_ready (rs := [8]) (by kernel_rfl) (by simp) ?_
          refine AllReadyH.cons (o := ?_) (by simp only [List.getElem?_toArray, List.getElem?_cons_succ, List.getElem?_cons_zero]; rfl) (fun K hK => ?_) AllReadyH.nil
          go_simp
          refine hK.out _ _ (trivial) (fun hHeld => ?_)
          clear hK K
          (try simp only [Act.put, List.setIfInBounds_toArray, List.set_cons_zero, List.set_cons_succ])
          refine wpAnyH_take (i := 9) (oi := ?_) (v := ?_) (by simp only [List.getElem?_toArray, List.getElem?_cons_succ, List.getElem?_cons_zero]; rfl) (by kernel_rfl) (by kernel_rfl) (by kernel_rfl) ?_ (Or.inl ⟨by rfl, ?_⟩) hHeld ?_
          rotate_left 1
          focus exact fun _ _ _ h => h
          focus (intro w hSw; (try dsimp only at hSw); go_simp; try with_reducible rfl)
          (try simp only [Act.put, List.setIfInBounds_toArray, List.set_cons_zero, List.set_cons_succ])
          refine wpAnyH_take (i := 10) (oi := ?_) (v := ?_) (by simp only [List.getElem?_toArray, List.getElem?_cons_succ, List.getElem?_cons_zero]; rfl) (by kernel_rfl) (by kernel_rfl) (by kernel_rfl) ?_ (Or.inl ⟨by rfl, ?_⟩) hHeld ?_
          rotate_left 1
          focus exact fun _ _ _ h => h
          focus (intro w hSw; (try dsimp only at hSw); go_simp; try with_reducible rfl)
          (try simp only [Act.put, List.setIfInBounds_toArray, List.set_cons_zero, List.set_cons_succ])
          refine wpAnyH_take (i := 11) (oi := ?_) (v := ?_) (by simp only [List.getElem?_toArray, List.getElem?_cons_succ, List.getElem?_cons_zero]; rfl) (by kernel_rfl) (by kernel_rfl) (by kernel_rfl) ?_ (Or.inl ⟨by rfl, ?_⟩) hHeld ?_
          rotate_left 1
          focus exact fun _ _ _ h => h
          focus (intro w hSw; (try dsimp only at hSw); go_simp; try with_reducible rfl)
          (try simp only [Act.put, List.setIfInBounds_toArray, List.set_cons_zero, List.set_cons_succ])
          refine wpAnyH_take (i := 12) (oi := ?_) (v := ?_) (by simp only [List.getElem?_toArray, List.getElem?_cons_succ, List.getElem?_cons_zero]; rfl) (by kernel_rfl) (by kernel_rfl) (by kernel_rfl) ?_ (Or.inl ⟨by rfl, ?_⟩) hHeld ?_
          rotate_left 1
          focus exact fun _ _ _ h => h
          focus (intro w hSw; (try dsimp only at hSw); go_simp; try with_reducible rfl)
          (try simp only [Act.put, List.setIfInBounds_toArray, List.set_cons_zero, List.set_cons_succ])
          refine wpAnyH_take (i := 13) (oi := ?_) (v := ?_) (by simp only [List.getElem?_toArray, List.getElem?_cons_succ, List.getElem?_cons_zero]; rfl) (by kernel_rfl) (by kernel_rfl) (by kernel_rfl) ?_ (Or.inl ⟨by rfl, ?_⟩) hHeld ?_
          rotate_left 1
          focus exact fun _ _ _ h => h
          focus (intro w hSw; (try dsimp only at hSw); go_simp; try with_reducible rfl)
          (try simp only [Act.put, List.setIfInBounds_toArray, List.set_cons_zero, List.set_cons_succ])
          refine wpAnyH_ready (rs := [14]) (by kernel_rfl) (by simp) ?_
          refine AllReadyH.cons (o := ?_) (by simp only [List.getElem?_toArray, List.getElem?_cons_succ, List.getElem?_cons_zero]; rfl) (fun K hK => ?_) AllReadyH.nil
          go_simp
          refine hK.out _ _ (trivial) (fun hHeld => ?_)
          clear hK K
          (try simp only [Act.put, List.setIfInBounds_toArray, List.set_cons_zero, List.set_cons_succ])
          refine wpAnyH_take (i := 15) (oi := ?_) (v := ?_) (by simp only [List.getElem?_toArray, List.getElem?_cons_succ, List.getElem?_cons_zero]; rfl) (by kernel_rfl) (by kernel_rfl) (by kernel_rfl) ?_ (Or.inl ⟨by rfl, ?_⟩) hHeld ?_
          rotate_left 1
          focus exact fun _ _ _ h => h
          focus (intro w hSw; (try dsimp only at hSw); go_simp; try with_reducible rfl)
          (try simp only [Act.put, List.setIfInBounds_toArray, List.set_cons_zero, List.set_cons_succ])
          refine wpAnyH_ready (rs := [16]) (by kernel_rfl) (by simp) ?_
          refine AllReadyH.cons (o := ?_) (by simp only [List.getElem?_toArray, List.getElem?_cons_succ, List.getElem?_cons_zero]; rfl) (fun K hK => ?_) AllReadyH.nil
          go_simp
          refine hK.out _ _ (trivial) (fun hHeld => ?_)
          clear hK K
          (try simp only [Act.put, List.setIfInBounds_toArray, List.set_cons_zero, List.set_cons_succ])
          refine wpAnyH_ready (rs := [17]) (by kernel_rfl) (by simp) ?_
          refine AllReadyH.cons (o := ?_) (by simp only [List.getElem?_toArray, List.getElem?_cons_succ, List.getElem?_cons_zero]; rfl) (fun K hK => ?_) AllReadyH.nil
          (refine step_appB _ (by rfl) _ _ _ (by rfl) w.heap.size 4 i0 _ 1 1 Try.underlying127 hi hz0 hz1 hz2' rfl (by omega) (.slice (some ⟨gs, 0, none⟩) p c') p (bCells (s.take p)) (by rfl) (by first | exact (OP.alloc (Obj.cells #[.bool b'] 4)).drew | exact OP.drew.alloc (Obj.cells #[.bool b'] 4)) _ 1 1 [.bool b'] (by rfl) (by first | exact RS_new (by simp) | exact (RS_new (by simp)).drewN 1) (by simp [Value.oneCell']) (by unfold maxLen; omega) (by omega) (Nat.le_trans BU.out.size (Below.size (Below.drew (below_box U _)))) ?_; intro A6 c6 w6 o6 g6 at6 b6)
          rw [bCells_snoc] at o6
          have BN := Lib.hid ((BU.out.trans ((by first | exact ((Below.refl U.heap.size U).alloc (Nat.le_refl _) (Obj.cells #[.bool b'] 4)).drew | exact (Below.refl U.heap.size U).drew.alloc (Nat.le_refl _) (Obj.cells #[.bool b'] 4) : Below U.heap.size U _).mono BU.out.size)).trans b6)
          clear g6 at6 b6
          refine hK.out _ _ (trivial) (fun hHeld => ?_)
          clear hK K
          (try simp only [Act.put, List.setIfInBounds_toArray, List.set_cons_zero, List.set_cons_succ])
          refine wpAnyH_take (i := 18) (oi := ?_) (v := ?_) (by simp only [List.getElem?_toArray, List.getElem?_cons_succ, List.getElem?_cons_zero]; rfl) (by kernel_rfl) (by kernel_rfl) (by kernel_rfl) ?_ (Or.inl ⟨by rfl, ?_⟩) hHeld ?_
          rotate_left 1
          focus exact fun _ _ _ h => h
          focus (intro w hSw; (try dsimp only at hSw); go_simp; try with_reducible rfl)
          (try simp only [Act.put, List.setIfInBounds_toArray, List.set_cons_zero, List.set_cons_succ])
          refine wpAnyH_done (by kernel_rfl) ?_ _
          clear hHeld
          go_wp2_with fail
          go_roundw
          case rel => exact ⟨k + 1, _, A6, p + 1, c6, by omega, by go_num, rfl, by simp; have := QL.out; omega, by omega, o6, BN.out, NY⟩
          case measure => simp [intOf]; omega
      · rw [hn] at ND
        clear hn
        obtain ⟨p, rfl⟩ : ∃ p, q = p + 2 := ⟨q - 2, by omega⟩
        obtain ⟨b, hb0⟩ : ∃ b, s[p]? = some b := ⟨_, List.getElem?_eq_getElem (by have := QL.out; omega)⟩
        obtain ⟨b', hb1⟩ : ∃ b', s[p + 1]? = some b' := ⟨_, List.getElem?_eq_getElem (by have := QL.out; omega)⟩
        rw [evStep_4 QL.out.symm hb0 hb1] at NX
        have OA := ho.alloc (Obj.cells #[.int .i64 4, .string opt, .string val] 126)
        obtain ⟨gs, rfl, hg1, hg2, hcs, hfs⟩ := own_addr OA (by omega)
        obtain ⟨U, hU⟩ : ∃ U, U = wr.alloc (Obj.cells #[.int .i64 4, .string opt, .string val] 126) := ⟨_, rfl⟩
        rw [← hU] at OA hcs
        have d0 : U.cell? ⟨gs, p, none⟩ = some (.bool b) := by rw [hcs p (by omega)]; exact bCells_at hb0
        have d1 : U.cell? ⟨gs, p + 1, none⟩ = some (.bool b') := by rw [hcs (p + 1) (by omega)]; exact bCells_at hb1
        have OP := own_pre OA (show p ≤ p + 2 by omega)
        rw [bCells_take] at OP
        have BU := Lib.hid (show Below w.heap.size w U by rw [hU]; exact HB.out)
        have j1 : (0 : Int) ≤ ((p + 2 : Nat) : Int) - 1 := by omega
        have j2 : ((p + 2 : Nat) : Int) - 1 < ((p + 2 : Nat) : Int) := by omega
        have j3 : (((p + 2 : Nat) : Int) - 1).toNat = p + 1 := by omega
        have j4 : (0 : Int) ≤ ((p + 2 : Nat) : Int) - 2 := by omega
        have j5 : ((p + 2 : Nat) : Int) - 2 < ((p + 2 : Nat) : Int) := by omega
        have j6 : (((p + 2 : Nat) : Int) - 2).toNat = p := by omega
        have cp := (own_capB OA).1
        have cp1 : (p : Int) ≤ c' := by omega
        have cp0 : (0 : Int) ≤ p := by omega
        have wp0 : IntKind.i64.wrap (p : Int) = p := IntWalk.i64_in _ (by omega)
        have wp1 : IntKind.i64.wrap ((p : Int) + 1) = p + 1 := IntWalk.i64_in _ (by omega)
        have wp6 : IntKind.i64.wrap ((p : Int) + 2 - 1) = p + 1 := by rw [show (p : Int) + 2 - 1 = p + 1 by omega]; exact wp1
        have wp2 : (0 : Int) ≤ (p : Int) + 1 := by omega
        have wp3 : (p : Int) + 1 < p + 2 := by omega
        have wp4 : (p : Int) < p + 2 := by omega
        have wp5 : ((p : Int) + 1).toNat = p + 1 := by omega
        clear hcs hfs hb0 hb1 ho HB bx OA
        go_upto_region 24 with fail
        rw [← hU]
        clear hU
        cases b
        · have NY : EvRel ch l (k + 1) (s.take p ++ [b']) := by have := NX.out; simpa using this
          refine wp_region_held_drew (S := fun _ => True) (by kernel_rfl) trivial (fun hHeld => ?_)
          refine wpAnyH_take (i := 0) (oi := ?_) (v := ?_) (by simp only [List.getElem?_toArray, List.getElem?_cons_zero]; rfl) (by kernel_rfl) (by kernel_rfl) (by kernel_rfl) ?_ (Or.inl ⟨by rfl, ?_⟩) hHeld ?_
          rotate_left 1
          focus exact fun _ _ _ h => h
          focus (intro w hSw; (try dsimp only at hSw); go_simp; try with_reducible rfl)
          (try simp only [Act.put, List.setIfInBounds_toArray, List.set_cons_zero, List.set_cons_succ])
          refine wpAnyH_take (i := 1) (oi := ?_) (v := ?_) (by simp only [List.getElem?_toArray, List.getElem?_cons_succ, List.getElem?_cons_zero]; rfl) (by kernel_rfl) (by kernel_rfl) (by kernel_rfl) ?_ (Or.inl ⟨by rfl, ?_⟩) hHeld ?_
          rotate_left 1
          focus exact fun _ _ _ h => h
          focus (intro w hSw; (try dsimp only at hSw); go_simp; try with_reducible rfl)
          (try simp only [Act.put, List.setIfInBounds_toArray, List.set_cons_zero, List.set_cons_succ])
          refine wpAnyH_take (i := 2) (oi := ?_) (v := ?_) (by simp only [List.getElem?_toArray, List.getElem?_cons_succ, List.getElem?_cons_zero]; rfl) (by kernel_rfl) (by kernel_rfl) (by kernel_rfl) ?_ (Or.inl ⟨by rfl, ?_⟩) hHeld ?_
          rotate_left 1
          focus exact fun _ _ _ h => h
          focus (intro w hSw; (try dsimp only at hSw); go_simp; try with_reducible rfl)
          (try simp only [Act.put, List.setIfInBounds_toArray, List.set_cons_zero, List.set_cons_succ])
          refine wpAnyH_take (i := 3) (oi := ?_) (v := ?_) (by simp only [List.getElem?_toArray, List.getElem?_cons_succ, List.getElem?_cons_zero]; rfl) (by kernel_rfl) (by kernel_rfl) (by kernel_rfl) ?_ (Or.inl ⟨by rfl, ?_⟩) hHeld ?_
          rotate_left 1
          focus exact fun _ _ _ h => h
          focus (intro w hSw; (try dsimp only at hSw); go_simp; try with_reducible rfl)
          (try simp only [Act.put, List.setIfInBounds_toArray, List.set_cons_zero, List.set_cons_succ])
          refine wpAnyH_take (i := 4) (oi := ?_) (v := ?_) (by simp only [List.getElem?_toArray, List.getElem?_cons_succ, List.getElem?_cons_zero]; rfl) (by kernel_rfl) (by kernel_rfl) (by kernel_rfl) ?_ (Or.inl ⟨by rfl, ?_⟩) hHeld ?_
          rotate_left 1
          focus exact fun _ _ _ h => h
          focus (intro w hSw; (try dsimp only at hSw); go_simp; try with_reducible rfl)
          (try simp only [Act.put, List.setIfInBounds_toArray, List.set_cons_zero, List.set_cons_succ])
          refine wpAnyH_take (i := 5) (oi := ?_) (v := ?_) (by simp only [List.getElem?_toArray, List.getElem?_cons_succ, List.getElem?_cons_zero]; rfl) (by kernel_rfl) (by kernel_rfl) (by kernel_rfl) ?_ (Or.inl ⟨by rfl, ?_⟩) hHeld ?_
          rotate_left 1
          focus exact fun _ _ _ h => h
          focus (intro w hSw; (try dsimp only at hSw); go_simp; try with_reducible rfl)
          (try simp only [Act.put, List.setIfInBounds_toArray, List.set_cons_zero, List.set_cons_succ])
          refine wpAnyH_take (i := 6) (oi := ?_) (v := ?_) (by simp only [List.getElem?_toArray, List.getElem?_cons_succ, List.getElem?_cons_zero]; rfl) (by kernel_rfl) (by kernel_rfl) (by kernel_rfl) ?_ (Or.inl ⟨by rfl, ?_⟩) hHeld ?_
          rotate_left 1
          focus exact fun _ _ _ h => h
          focus (intro w hSw; (try dsimp only at hSw); go_simp; try with_reducible rfl)
          (try simp only [Act.put, List.setIfInBounds_toArray, List.set_cons_zero, List.set_cons_succ])
          refine wpAnyH_take (i := 7) (oi := ?_) (v := ?_) (by simp only [List.getElem?_toArray, List.getElem?_cons_succ, List.getElem?_cons_zero]; rfl) (by kernel_rfl) (by kernel_rfl) (by kernel_rfl) ?_ (Or.inl ⟨by rfl, ?_⟩) hHeld ?_
          rotate_left 1
          focus exact fun _ _ _ h => h
          focus (intro w hSw; (try dsimp only at hSw); go_simp; try with_reducible rfl)
          (try simp only [Act.put, List.setIfInBounds_toArray, List.set_cons_zero, List.set_cons_succ])
          refine wpAnyH_ready (rs := [8]) (by kernel_rfl) (by simp) ?_
          refine AllReadyH.cons (o := ?_) (by simp only [List.getElem?_toArray, List.getElem?_cons_succ, List.getElem?_cons_zero]; rfl) (fun K hK => ?_) AllReadyH.nil
          go_simp
          refine hK.out _ _ (trivial) (fun hHeld => ?_)
          clear hK K
          (try simp only [Act.put, List.setIfInBounds_toArray, List.set_cons_zero, List.set_cons_succ])
          refine wpAnyH_take (i := 9) (oi := ?_) (v := ?_) (by simp only [List.getElem?_toArray, List.getElem?_cons_succ, List.getElem?_cons_zero]; rfl) (by kernel_rfl) (by kernel_rfl) (by kernel_rfl) ?_ (Or.inl ⟨by rfl, ?_⟩) hHeld ?_
          rotate_left 1
          focus exact fun _ _ _ h => h
          focus (intro w hSw; (try dsimp only at hSw); go_simp; try with_reducible rfl)
          (try simp only [Act.put, List.setIfInBounds_toArray, List.set_cons_zero, List.set_cons_succ])
          refine wpAnyH_take (i := 10) (oi := ?_) (v := ?_) (by simp only [List.getElem?_toArray, List.getElem?_cons_succ, List.getElem?_cons_zero]; rfl) (by kernel_rfl) (by kernel_rfl) (by kernel_rfl) ?_ (Or.inl ⟨by rfl, ?_⟩) hHeld ?_
          rotate_left 1
          focus exact fun _ _ _ h => h
          focus (intro w hSw; (try dsimp only at hSw); go_simp; try with_reducible rfl)
          (try simp only [Act.put, List.setIfInBounds_toArray, List.set_cons_zero, List.set_cons_succ])
          refine wpAnyH_take (i := 11) (oi := ?_) (v := ?_) (by simp only [List.getElem?_toArray, List.getElem?_cons_succ, List.getElem?_cons_zero]; rfl) (by kernel_rfl) (by kernel_rfl) (by kernel_rfl) ?_ (Or.inl ⟨by rfl, ?_⟩) hHeld ?_
          rotate_left 1
          focus exact fun _ _ _ h => h
          focus (intro w hSw; (try dsimp only at hSw); go_simp; try with_reducible rfl)
          (try simp only [Act.put, List.setIfInBounds_toArray, List.set_cons_zero, List.set_cons_succ])
          refine wpAnyH_take (i := 12) (oi := ?_) (v := ?_) (by simp only [List.getElem?_toArray, List.getElem?_cons_succ, List.getElem?_cons_zero]; rfl) (by kernel_rfl) (by kernel_rfl) (by kernel_rfl) ?_ (Or.inl ⟨by rfl, ?_⟩) hHeld ?_
          rotate_left 1
          focus exact fun _ _ _ h => h
          focus (intro w hSw; (try dsimp only at hSw); go_simp; try with_reducible rfl)
          (try simp only [Act.put, List.setIfInBounds_toArray, List.set_cons_zero, List.set_cons_succ])
          refine wpAnyH_take (i := 13) (oi := ?_) (v := ?_) (by simp only [List.getElem?_toArray, List.getElem?_cons_succ, List.getElem?_cons_zero]; rfl) (by kernel_rfl) (by kernel_rfl) (by kernel_rfl) ?_ (Or.inl ⟨by rfl, ?_⟩) hHeld ?_
          rotate_left 1
          focus exact fun _ _ _ h => h
          focus (intro w hSw; (try dsimp only at hSw); go_simp; try with_reducible rfl)
          (try simp only [Act.put, List.setIfInBounds_toArray, List.set_cons_zero, List.set_cons_succ])
          refine wpAnyH_ready (rs := [14]) (by kernel_rfl) (by simp) ?_
          refine AllReadyH.cons (o := ?_) (by simp only [List.getElem?_toArray, List.getElem?_cons_succ, List.getElem?_cons_zero]; rfl) (fun K hK => ?_) AllReadyH.nil
          go_simp
          refine hK.out _ _ (trivial) (fun hHeld => ?_)
          clear hK K
          (try simp only [Act.put, List.setIfInBounds_toArray, List.set_cons_zero, List.set_cons_succ])
          refine wpAnyH_take (i := 15) (oi := ?_) (v := ?_) (by simp only [List.getElem?_toArray, List.getElem?_cons_succ, List.getElem?_cons_zero]; rfl) (by kernel_rfl) (by kernel_rfl) (by kernel_rfl) ?_ (Or.inl ⟨by rfl, ?_⟩) hHeld ?_
          rotate_left 1
          focus exact fun _ _ _ h => h
          focus (intro w hSw; (try dsimp only at hSw); go_simp; try with_reducible rfl)
          (try simp only [Act.put, List.setIfInBounds_toArray, List.set_cons_zero, List.set_cons_succ])
          refine wpAnyH_ready (rs := [16]) (by kernel_rfl) (by simp) ?_
          refine AllReadyH.cons (o := ?_) (by simp only [List.getElem?_toArray, List.getElem?_cons_succ, List.getElem?_cons_zero]; rfl) (fun K hK => ?_) AllReadyH.nil
          go_simp
          refine hK.out _ _ (trivial) (fun hHeld => ?_)
          clear hK K
          (try simp only [Act.put, List.setIfInBounds_toArray, List.set_cons_zero, List.set_cons_succ])
          refine wpAnyH_ready (rs := [17]) (by kernel_rfl) (by simp) ?_
          refine AllReadyH.cons (o := ?_) (by simp only [List.getElem?_toArray, List.getElem?_cons_succ, List.getElem?_cons_zero]; rfl) (fun K hK => ?_) AllReadyH.nil
          (refine step_appB _ (by rfl) _ _ _ (by rfl) w.heap.size 4 i0 _ 1 1 Try.underlying127 hi hz0 hz1 hz2' rfl (by omega) (.slice (some ⟨gs, 0, none⟩) p c') p (bCells (s.take p)) (by rfl) (by first | exact (OP.alloc (Obj.cells #[.bool b'] 4)).drew | exact OP.drew.alloc (Obj.cells #[.bool b'] 4)) _ 1 1 [.bool b'] (by rfl) (by first | exact RS_new (by simp) | exact (RS_new (by simp)).drewN 1) (by simp [Value.oneCell']) (by unfold maxLen; omega) (by omega) (Nat.le_trans BU.out.size (Below.size (Below.drew (below_box U _)))) ?_; intro A6 c6 w6 o6 g6 at6 b6)
          rw [bCells_snoc] at o6
          have BN := Lib.hid ((BU.out.trans ((by first | exact ((Below.refl U.heap.size U).alloc (Nat.le_refl _) (Obj.cells #[.bool b'] 4)).drew | exact (Below.refl U.heap.size U).drew.alloc (Nat.le_refl _) (Obj.cells #[.bool b'] 4) : Below U.heap.size U _).mono BU.out.size)).trans b6)
          clear g6 at6 b6
          refine hK.out _ _ (trivial) (fun hHeld => ?_)
          clear hK K
          (try simp only [Act.put, List.setIfInBounds_toArray, List.set_cons_zero, List.set_cons_succ])
          refine wpAnyH_take (i := 18) (oi := ?_) (v := ?_) (by simp only [List.getElem?_toArray, List.getElem?_cons_succ, List.getElem?_cons_zero]; rfl) (by kernel_rfl) (by kernel_rfl) (by kernel_rfl) ?_ (Or.inl ⟨by rfl, ?_⟩) hHeld ?_
          rotate_left 1
          focus exact fun _ _ _ h => h
          focus (intro w hSw; (try dsimp only at hSw); go_simp; try with_reducible rfl)
          (try simp only [Act.put, List.setIfInBounds_toArray, List.set_cons_zero, List.set_cons_succ])
          refine wpAnyH_done (by kernel_rfl) ?_ _
          clear hHeld
          go_wp2_with fail
          go_roundw
          case rel => exact ⟨k + 1, _, A6, p + 1, c6, by omega, by go_num, rfl, by simp; have := QL.out; omega, by omega, o6, BN.out, NY⟩
          case measure => simp [intOf]; omega
        · have NY : EvRel ch l (k + 1) (s.take p ++ [true]) := by have := NX.out; simpa using this
          refine wp_region_held_drew (S := fun _ => True) (by kernel_rfl) trivial (fun hHeld => ?_)
          refine wpAnyH_take (i := 0) (oi := ?_) (v := ?_) (by simp only [List.getElem?_toArray, List.getElem?_cons_zero]; rfl) (by kernel_rfl) (by kernel_rfl) (by kernel_rfl) ?_ (Or.inl ⟨by rfl, ?_⟩) hHeld ?_
          rotate_left 1
          focus exact fun _ _ _ h => h
          focus (intro w hSw; (try dsimp only at hSw); go_simp; try with_reducible rfl)
          (try simp only [Act.put, List.setIfInBounds_toArray, List.set_cons_zero, List.set_cons_succ])
          refine wpAnyH_take (i := 1) (oi := ?_) (v := ?_) (by simp only [List.getElem?_toArray, List.getElem?_cons_succ, List.getElem?_cons_zero]; rfl) (by kernel_rfl) (by kernel_rfl) (by kernel_rfl) ?_ (Or.inl ⟨by rfl, ?_⟩) hHeld ?_
          rotate_left 1
          focus exact fun _ _ _ h => h
          focus (intro w hSw; (try dsimp only at hSw); go_simp; try with_reducible rfl)
          (try simp only [Act.put, List.setIfInBounds_toArray, List.set_cons_zero, List.set_cons_succ])
          refine wpAnyH_take (i := 2) (oi := ?_) (v := ?_) (by simp only [List.getElem?_toArray, List.getElem?_cons_succ, List.getElem?_cons_zero]; rfl) (by kernel_rfl) (by kernel_rfl) (by kernel_rfl) ?_ (Or.inl ⟨by rfl, ?_⟩) hHeld ?_
          rotate_left 1
          focus exact fun _ _ _ h => h
          focus (intro w hSw; (try dsimp only at hSw); go_simp; try with_reducible rfl)
          (try simp only [Act.put, List.setIfInBounds_toArray, List.set_cons_zero, List.set_cons_succ])
          refine wpAnyH_take (i := 3) (oi := ?_) (v := ?_) (by simp only [List.getElem?_toArray, List.getElem?_cons_succ, List.getElem?_cons_zero]; rfl) (by kernel_rfl) (by kernel_rfl) (by kernel_rfl) ?_ (Or.inl ⟨by rfl, ?_⟩) hHeld ?_
          rotate_left 1
          focus exact fun _ _ _ h => h
          focus (intro w hSw; (try dsimp only at hSw); go_simp; try with_reducible rfl)
          (try simp only [Act.put, List.setIfInBounds_toArray, List.set_cons_zero, List.set_cons_succ])
          refine wpAnyH_take (i := 4) (oi := ?_) (v := ?_) (by simp only [List.getElem?_toArray, List.getElem?_cons_succ, List.getElem?_cons_zero]; rfl) (by kernel_rfl) (by kernel_rfl) (by kernel_rfl) ?_ (Or.inl ⟨by rfl, ?_⟩) hHeld ?_
          rotate_left 1
          focus exact fun _ _ _ h => h
          focus (intro w hSw; (try dsimp only at hSw); go_simp; try with_reducible rfl)
          (try simp only [Act.put, List.setIfInBounds_toArray, List.set_cons_zero, List.set_cons_succ])
          refine wpAnyH_take (i := 5) (oi := ?_) (v := ?_) (by simp only [List.getElem?_toArray, List.getElem?_cons_succ, List.getElem?_cons_zero]; rfl) (by kernel_rfl) (by kernel_rfl) (by kernel_rfl) ?_ (Or.inl ⟨by rfl, ?_⟩) hHeld ?_
          rotate_left 1
          focus exact fun _ _ _ h => h
          focus (intro w hSw; (try dsimp only at hSw); go_simp; try with_reducible rfl)
          (try simp only [Act.put, List.setIfInBounds_toArray, List.set_cons_zero, List.set_cons_succ])
          refine wpAnyH_take (i := 6) (oi := ?_) (v := ?_) (by simp only [List.getElem?_toArray, List.getElem?_cons_succ, List.getElem?_cons_zero]; rfl) (by kernel_rfl) (by kernel_rfl) (by kernel_rfl) ?_ (Or.inl ⟨by rfl, ?_⟩) hHeld ?_
          rotate_left 1
          focus exact fun _ _ _ h => h
          focus (intro w hSw; (try dsimp only at hSw); go_simp; try with_reducible rfl)
          (try simp only [Act.put, List.setIfInBounds_toArray, List.set_cons_zero, List.set_cons_succ])
          refine wpAnyH_take (i := 7) (oi := ?_) (v := ?_) (by simp only [List.getElem?_toArray, List.getElem?_cons_succ, List.getElem?_cons_zero]; rfl) (by kernel_rfl) (by kernel_rfl) (by kernel_rfl) ?_ (Or.inl ⟨by rfl, ?_⟩) hHeld ?_
          rotate_left 1
          focus exact fun _ _ _ h => h
          focus (intro w hSw; (try dsimp only at hSw); go_simp; try with_reducible rfl)
          (try simp only [Act.put, List.setIfInBounds_toArray, List.set_cons_zero, List.set_cons_succ])
          refine wpAnyH_ready (rs := [8]) (by kernel_rfl) (by simp) ?_
          refine AllReadyH.cons (o := ?_) (by simp only [List.getElem?_toArray, List.getElem?_cons_succ, List.getElem?_cons_zero]; rfl) (fun K hK => ?_) AllReadyH.nil
          go_simp
          refine hK.out _ _ (trivial) (fun hHeld => ?_)
          clear hK K
          (try simp only [Act.put, List.setIfInBounds_toArray, List.set_cons_zero, List.set_cons_succ])
          refine wpAnyH_take (i := 9) (oi := ?_) (v := ?_) (by simp only [List.getElem?_toArray, List.getElem?_cons_succ, List.getElem?_cons_zero]; rfl) (by kernel_rfl) (by kernel_rfl) (by kernel_rfl) ?_ (Or.inl ⟨by rfl, ?_⟩) hHeld ?_
          rotate_left 1
          focus exact fun _ _ _ h => h
          focus (intro w hSw; (try dsimp only at hSw); go_simp; try with_reducible rfl)
          (try simp only [Act.put, List.setIfInBounds_toArray, List.set_cons_zero, List.set_cons_succ])
          refine wpAnyH_take (i := 10) (oi := ?_) (v := undef) (by simp only [List.getElem?_toArray, List.getElem?_cons_succ, List.getElem?_cons_zero]; rfl) (by kernel_rfl) (by kernel_rfl) (by kernel_rfl) ?_ (Or.inr ⟨by rfl, rfl⟩) hHeld ?_
          focus exact fun _ _ _ h => h
          (try simp only [Act.put, List.setIfInBounds_toArray, List.set_cons_zero, List.set_cons_succ])
          refine wpAnyH_take (i := 11) (oi := ?_) (v := undef) (by simp only [List.getElem?_toArray, List.getElem?_cons_succ, List.getElem?_cons_zero]; rfl) (by kernel_rfl) (by kernel_rfl) (by kernel_rfl) ?_ (Or.inr ⟨by rfl, rfl⟩) hHeld ?_
          focus exact fun _ _ _ h => h
          (try simp only [Act.put, List.setIfInBounds_toArray, List.set_cons_zero, List.set_cons_succ])
          refine wpAnyH_take (i := 12) (oi := ?_) (v := undef) (by simp only [List.getElem?_toArray, List.getElem?_cons_succ, List.getElem?_cons_zero]; rfl) (by kernel_rfl) (by kernel_rfl) (by kernel_rfl) ?_ (Or.inr ⟨by rfl, rfl⟩) hHeld ?_
          focus exact fun _ _ _ h => h
          (try simp only [Act.put, List.setIfInBounds_toArray, List.set_cons_zero, List.set_cons_succ])
          refine wpAnyH_take (i := 13) (oi := ?_) (v := undef) (by simp only [List.getElem?_toArray, List.getElem?_cons_succ, List.getElem?_cons_zero]; rfl) (by kernel_rfl) (by kernel_rfl) (by kernel_rfl) ?_ (Or.inr ⟨by rfl, rfl⟩) hHeld ?_
          focus exact fun _ _ _ h => h
          (try simp only [Act.put, List.setIfInBounds_toArray, List.set_cons_zero, List.set_cons_succ])
          refine wpAnyH_take (i := 14) (oi := ?_) (v := undef) (by simp only [List.getElem?_toArray, List.getElem?_cons_succ, List.getElem?_cons_zero]; rfl) (by kernel_rfl) (by kernel_rfl) (by kernel_rfl) ?_ (Or.inr ⟨by rfl, rfl⟩) hHeld ?_
          focus exact fun _ _ _ h => h
          (try simp only [Act.put, List.setIfInBounds_toArray, List.set_cons_zero, List.set_cons_succ])
          refine wpAnyH_take (i := 15) (oi := ?_) (v := ?_) (by simp only [List.getElem?_toArray, List.getElem?_cons_succ, List.getElem?_cons_zero]; rfl) (by kernel_rfl) (by kernel_rfl) (by kernel_rfl) ?_ (Or.inl ⟨by rfl, ?_⟩) hHeld ?_
          rotate_left 1
          focus exact fun _ _ _ h => h
          focus (intro w hSw; (try dsimp only at hSw); go_simp; try with_reducible rfl)
          (try simp only [Act.put, List.setIfInBounds_toArray, List.set_cons_zero, List.set_cons_succ])
          refine wpAnyH_ready (rs := [16]) (by kernel_rfl) (by simp) ?_
          refine AllReadyH.cons (o := ?_) (by simp only [List.getElem?_toArray, List.getElem?_cons_succ, List.getElem?_cons_zero]; rfl) (fun K hK => ?_) AllReadyH.nil
          go_simp
          refine hK.out _ _ (trivial) (fun hHeld => ?_)
          clear hK K
          (try simp only [Act.put, List.setIfInBounds_toArray, List.set_cons_zero, List.set_cons_succ])
          refine wpAnyH_ready (rs := [17]) (by kernel_rfl) (by simp) ?_
          refine AllReadyH.cons (o := ?_) (by simp only [List.getElem?_toArray, List.getElem?_cons_succ, List.getElem?_cons_zero]; rfl) (fun K hK => ?_) AllReadyH.nil
          (refine step_appB _ (by rfl) _ _ _ (by rfl) w.heap.size 4 i0 _ 1 1 Try.underlying127 hi hz0 hz1 hz2' rfl (by omega) (.slice (some ⟨gs, 0, none⟩) p c') p (bCells (s.take p)) (by rfl) (by first | exact (OP.alloc (Obj.cells #[.bool true] 4)).drew | exact OP.drew.alloc (Obj.cells #[.bool true] 4)) _ 1 1 [.bool true] (by rfl) (by first | exact RS_new (by simp) | exact (RS_new (by simp)).drewN 1) (by simp [Value.oneCell']) (by unfold maxLen; omega) (by omega) (Nat.le_trans BU.out.size (Below.size (Below.drew (below_box U _)))) ?_; intro A6 c6 w6 o6 g6 at6 b6)
          rw [bCells_snoc] at o6
          have BN := Lib.hid ((BU.out.trans ((by first | exact ((Below.refl U.heap.size U).alloc (Nat.le_refl _) (Obj.cells #[.bool true] 4)).drew | exact (Below.refl U.heap.size U).drew.alloc (Nat.le_refl _) (Obj.cells #[.bool true] 4) : Below U.heap.size U _).mono BU.out.size)).trans b6)
          clear g6 at6 b6
          refine hK.out _ _ (trivial) (fun hHeld => ?_)
          clear hK K
          (try simp only [Act.put, List.setIfInBounds_toArray, List.set_cons_zero, List.set_cons_succ])
          refine wpAnyH_take (i := 18) (oi := ?_) (v := ?_) (by simp only [List.getElem?_toArray, List.getElem?_cons_succ, List.getElem?_cons_zero]; rfl) (by kernel_rfl) (by kernel_rfl) (by kernel_rfl) ?_ (Or.inl ⟨by rfl, ?_⟩) hHeld ?_
          rotate_left 1
          focus exact fun _ _ _ h => h
          focus (intro w hSw; (try dsimp only at hSw); go_simp; try with_reducible rfl)
          (try simp only [Act.put, List.setIfInBounds_toArray, List.set_cons_zero, List.set_cons_succ])
          refine wpAnyH_done (by kernel_rfl) ?_ _
          clear hHeld
          go_wp2_with fail
          go_roundw
          case rel => exact ⟨k + 1, _, A6, p + 1, c6, by omega, by go_num, rfl, by simp; have := QL.out; omega, by omega, o6, BN.out, NY⟩
          case measure => simp [intOf]; omega
      · rw [hn] at ND
        exact absurd ND.1 (by omega)
    · obtain rfl : n = k := by omega
      obtain ⟨b, hs, he⟩ := evRel_end hE.out (by rw [hl.out]; exact Nat.le_refl _)
      have q1 := QL.out
      rw [hs] at q1 ho
      replace q1 : q = 1 := q1
      subst q1
      have RR := Lib.hid he
      clear hs he hE QL
      obtain ⟨gs, rfl, _, _, hcs, _⟩ := own_addr ho (by omega)
      have c0 : wr.cell? ⟨gs, 0, none⟩ = some (.bool b) := by rw [hcs 0 (by omega)]; rfl
      clear hcs ho
      go_wp2_with fail
      go_ret
      exact ⟨ret_bool (by rw [R.out, RR.out]), hb⟩
end Go.Proofs.Ytnhkpdaogclfjaa
