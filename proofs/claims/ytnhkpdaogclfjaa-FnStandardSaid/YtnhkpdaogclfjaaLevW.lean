/- Levels: the walks of levels and l9Levels. No condition. -/
import Derived.Test.YtnhkpdaogclfjaaBillP
import Derived.Test.YtnhkpdaogclfjaaInts
import Derived.Deep.DeepCutAuto
namespace Go.Proofs.Ytnhkpdaogclfjaa
open Go.ChangeShapes Go.WideShapes Go.ChangeAt Go.RowKit

theorem numInfo : (Try.prog.info? 3).map (fun i => (i.zero, i.size, i.bytes)) = some (some (.int .i64 0), 1, 8) := by kernel_rfl
theorem made_zero (n : Nat) : (madeCells (Value.int .i64 0).cells (n * 1)).toList = intCells (List.replicate n 0) := by
  have h : (Value.int .i64 0).cells = #[.int .i64 0] := rfl
  rw [h, Nat.mul_one]
  apply List.ext_getElem
  · simp [madeCells]
  · intro i h1 h2
    simp [madeCells, Nat.mod_one]
theorem int_own {w : World} {base n c : Nat} {e : TypeId} {A : Option Addr} {l : List Int} {k : Nat} (h : w.ownsRow base e 1 (.slice A n c) n (intCells l)) (hk : k < n) :
    ∃ g, A = some ⟨g, 0, none⟩ ∧ base ≤ g ∧ w.cell? ⟨g, k, none⟩ = some (.int .i64 (lvAt l k)) ∧ w.frozen? ⟨g, k, none⟩ = false ∧ ∀ x : Int, (w.setCell ⟨g, k, none⟩ (.int .i64 x)).ownsRow base e 1 (.slice A n c) n (intCells (l.set k x)) := by
  have hl := own_ints h
  obtain ⟨g, rfl, h1, h2, hc, hf⟩ := own_addr h (by omega)
  refine ⟨g, rfl, h1, ?_, hf k, fun x => ?_⟩
  · rw [hc k (by omega)]
    simp only [intCells, List.getElem?_map]
    rw [lvAt_get (by omega)]; rfl
  · have := (h.stored k (.int .i64 x)).1
    rw [show (intCells l).set k (.int .i64 x) = intCells (l.set k x) by simp [intCells, List.map_set]] at this
    exact this
set_option maxRecDepth 100000 in
set_option maxHeartbeats 8000000 in
theorem implLevels (Ac : Option Addr) (nc cc : Nat) (cat : List It) (A : Option Addr) (n c : Nat) (l : List Bl) (w : World) (hrc : RS w 8 Ac nc (cat.flatMap itCell)) (hnc : nc ≤ 12) (hr : BillsR w A n l) (hn : n ≤ 24) (hin : ∀ x ∈ l, lineIn cat x) :
    Calls Try.prog 69 #[.slice Ac nc cc, .slice A n c] w fun e w' => ∃ B m d, e = .returned (.tuple #[.slice B m d, .bool (lvOk cat l)]) ∧ (lvOk cat l = true → w'.ownsRow w.heap.size 3 1 (.slice B m d) m (intCells (lvs cat l))) ∧ Below w.heap.size w w' := by
  have hlc := Lib.hid (hrc.flatLen itCell_len (by omega))
  have hl := Lib.hid hr.len
  have EL := Lib.hid (show (egs cat l).length = n by rw [egs, List.length_map]; exact hl.out)
  have EI := Lib.hid (show egIn (egs cat l) nc by rw [← hlc.out]; exact egs_in hin)
  have IN := Lib.hid hin
  have LV := Lib.hid (show lvs cat l = lvIter (egs cat l) nc nc by rw [lvs, hlc.out])
  have LO := Lib.hid (show lvOk cat l = lvFix (egs cat l) nc by rw [lvOk, hlc.out])
  have AT := Lib.hid (fun (j : Nat) (x : Bl) (h : l[j]? = some x) => egs_at (cat := cat) h)
  clear hin
  obtain ⟨es, hes⟩ : ∃ es, es = egs cat l := ⟨_, rfl⟩
  rw [← hes] at EL EI LV LO AT
  clear hes
  obtain ⟨i0, hi, hz0, hz1, hz2⟩ := info_parts numInfo
  go_enter Try.func69, Try.ntmps69
  go_wp2_with (at_make; refine wpList_make_full _ rfl _ _ _ rfl w.heap.size 3 i0 _ 1 Try.underlying77 hi hz0 hz1 _ _ _ _ nc rfl rfl rfl rfl (by rw [hz2]; omega) (by unfold maxLen; omega) (Nat.le_refl _) ?_; intro w1 hown1 hg1)
  rw [made_zero] at hown1
  have hb1 : Below w.heap.size w w1 := ⟨hg1.os, hg1.tape, hg1.output, hg1.size, fun k hk => hg1.block k hk (by simp)⟩
  clear hg1
  go_loopw [7] (fun rd wr => ∃ r : Nat, r ≤ nc + 1 ∧ rd = .int .i64 r ∧ wr.ownsRow w.heap.size 3 1 (.slice (some ⟨w.heap.size, 0, none⟩) nc nc) nc (intCells (lvIter es nc r)) ∧ Below w.heap.size w wr ∧ Hid (nc < r → lvFix es nc = false)) (fun rd _ => nc + 2 - (intOf rd).toNat)
  case atStart => exact ⟨0, by omega, rfl, hown1, hb1, fun h => absurd h (Nat.not_lt_zero _)⟩
  case round =>
    obtain ⟨r, hrn, rfl, ho, hb, hF⟩ := hrel
    clear hown1 hb1
    obtain ⟨wu, rfl⟩ : ∃ wu : World, wu = wr := ⟨_, rfl⟩
    obtain ⟨L, hL⟩ : ∃ L, L = lvIter es nc r := ⟨_, rfl⟩
    have LE := Lib.hid (show L.length = nc by rw [hL]; exact lvIter_len _ _ _)
    have MID := Lib.hid (fun (j i : Nat) (hj : j ≤ es.length) => lv_mid EI.out r j i hj)
    have MONO := Lib.hid (fun (j i : Nat) => lvRound_mono (es := es.take j) (out := L) (by rw [LE.out]; exact egIn_take EI.out j) i)
    have LNX := Lib.hid (show lvRound es L = lvIter es nc (r + 1) by rw [hL]; rfl)
    have HL := Lib.hid hL
    rw [← hL] at MID ho
    clear hL
    go_wp2_with fail
    go_loopw [8, 20] (fun ch i wz => ∃ j : Nat, j ≤ n ∧ i = .int .i64 j ∧ ch = .bool (decide (lvRound (es.take j) L ≠ L)) ∧ wz.ownsRow w.heap.size 3 1 (.slice (some ⟨w.heap.size, 0, none⟩) nc nc) nc (intCells (lvRound (es.take j) L)) ∧ Below w.heap.size w wz) (fun _ i _ => n - (intOf i).toNat)
    case atStart => exact ⟨0, Nat.zero_le _, rfl, by simp [lvRound], by simpa [lvRound] using ho, hb⟩
    case round =>
      obtain ⟨j, hj, rfl, rfl, hc, hz⟩ := hrel
      have zz := hz.size
      by_cases hlt : j < n
      · obtain ⟨g, off, rfl, ⟨par, part, qty, fr, un, cond⟩, eA, en, ec, hx, c0, c1, c2, c3, c4, c5, -⟩ := (hr.below hz).blAt hlt
        simp only at c0 c1 c2 c3 c4
        have hli := IN.out _ (List.mem_of_getElem? hx)
        obtain ⟨p, hp⟩ := Int.eq_ofNat_of_zero_le hli.1
        obtain ⟨q, hq⟩ := Int.eq_ofNat_of_zero_le hli.2
        simp only at hp hq
        have hat := AT.out j _ hx
        have heg : egOf cat ⟨par, part, qty, fr, un, cond⟩ = ⟨p, q⟩ := by simp [egOf, hp, hq]
        rw [heg] at hat
        have hpq := EI.out _ (List.mem_of_getElem? hat)
        simp only at hpq
        have hp1 : p < nc := hpq.1
        have hq1 : q < nc := hpq.2
        have TK := Lib.hid (lvRound_take (L := L) hat)
        have m1 := MID.out j p (by rw [EL.out]; exact hj)
        have m2 := MID.out j q (by rw [EL.out]; exact hj)
        rw [EL.out] at m1 m2
        have mm : (r : Int) * n ≤ 13 * 24 := Int.mul_le_mul (by omega) (by omega) (by omega) (by omega)
        have MO := Lib.hid (MONO.out j)
        have CL := Lib.hid (show (lvRound (es.take j) L).length = nc by rw [lvRound_len, LE.out])
        obtain ⟨cur, hcur⟩ : ∃ cur, cur = lvRound (es.take j) L := ⟨_, rfl⟩
        rw [← hcur] at hc m1 m2 MO TK CL ⊢
        clear hcur hat heg hpq hli hx
        have HP := Lib.hid hp; have HQ := Lib.hid hq
        clear hp hq
        obtain ⟨U, hU⟩ : ∃ U, U = wr.alloc (Obj.cells #[.string par, .string part, .int .i64 qty, .int .i64 fr, .int .i64 un, .slice eA en ec] 82) := ⟨_, rfl⟩
        have XU := Lib.hid (show U.heap[wr.heap.size]? = some (Obj.cells #[.string par, .string part, .int .i64 qty, .int .i64 fr, .int .i64 un, .slice eA en ec] 82 (0, 0)) by rw [hU]; exact blk_new1 _ _)
        have BU := Lib.hid (show Below w.heap.size w U by rw [hU]; exact hz.alloc zz _)
        have CU := Lib.hid (show U.ownsRow w.heap.size 3 1 (.slice (some ⟨w.heap.size, 0, none⟩) nc nc) nc (intCells cur) by rw [hU]; exact hc.alloc _)
        have k1 : (0 : Int) ≤ j := by omega
        have k2 : (j : Int) < n := by omega
        clear hc hz
        go_upto_region 8 with fail
        rw [← hU]
        clear hU c0 c1 c2 c3 c4 c5
        have HF := Lib.hid (fun (X : WX) (s : ByteArray) (v : Int) (hv : findAt cat s = v) => (show Calls Try.prog 35 #[.slice Ac nc cc, .string s] (wext U X) fun e w' => e = .returned (.int .i64 v) ∧ ∃ y, w' = wext U y by
          have := implFind Ac nc cc cat s (wext U X) ((hrc.below BU.out).below (below_wext _ _)) (by omega)
          rw [hv] at this
          exact ext_call this))
        have x0 := cell_wext (blk_at XU.out (j := 0) rfl); have x1 := cell_wext (blk_at XU.out (j := 1) rfl)
        refine wp_region_ext (by kernel_rfl) (by kernel_rfl) ?_
        repeat (go_big_quiet_step ((go_at_call 35; exact HF.out _ _ _ (by first | exact HP.out | exact HQ.out))))
        refine wpQuiet_nil ?_
        intro _ hw'; obtain ⟨ny, hw''⟩ := hw'; subst hw''
        have bV := below_wext U ny
        obtain ⟨V, hV⟩ : ∃ V, V = wext U ny := ⟨_, rfl⟩
        rw [← hV] at bV ⊢
        have BV := Lib.hid (below_app BU.out bV BU.out.size)
        have CV := own_below CU.out bV
        clear hV bV HF x0 x1 XU CU BU
        obtain ⟨_, e1, _, dq, _, _⟩ := int_own CV hq1
        obtain ⟨_, e2, _, dp, _, _⟩ := int_own CV hp1
        injection e1 with e1; injection e1 with e1
        injection e2 with e2; injection e2 with e2
        subst e1
        subst e2
        have CH := Lib.hid CV
        clear CV
        by_cases hle : lvAt cur q ≤ lvAt cur p
        · have gd : decide (lvAt cur q ≤ lvAt cur p) = true := by simpa using hle
          have NE := Lib.hid (lvStep_new (out0 := L) (out := cur) (e := ⟨p, q⟩) (by rw [CL.out]; exact hq1) MO.out hle)
          have ST := Lib.hid (show lvStep cur ⟨p, q⟩ = cur.set q (lvAt cur p + 1) by unfold lvStep; rw [if_pos hle])
          rw [ST.out] at TK NE
          go_wp2_with fail
          go_quiet (fail)
          have bD := below_drewN (Below.refl V.heap.size V) nq
          obtain ⟨V2, hV2⟩ : ∃ V2, V2 = V.drewN nq := ⟨_, rfl⟩
          rw [← hV2] at bD ⊢
          obtain ⟨_, e1, _, _, fq, SQ⟩ := int_own (own_below CH.out bD) hq1
          obtain ⟨_, e2, _, dp, _, _⟩ := int_own (own_below CH.out bD) hp1
          injection e1 with e1; injection e1 with e1
          injection e2 with e2; injection e2 with e2
          subst e1
          subst e2
          have OS := Lib.hid (SQ (lvAt cur p + 1))
          have BN := Lib.hid ((below_app BV.out bD BV.out.size).setCell (p := ⟨w.heap.size, q, none⟩) (Nat.le_refl _) (.int .i64 (lvAt cur p + 1)))
          have wk : IntKind.i64.wrap (lvAt cur p + 1) = lvAt cur p + 1 := IntWalk.i64_in _ (by omega)
          clear hV2 bD SQ CH BV dq
          go_wp2_with fail
          go_roundw
          case rel => exact ⟨j + 1, by omega, by go_num, by rw [TK.out]; simp [NE.out], by rw [TK.out]; exact OS.out, BN.out⟩
          case measure => simp [intOf]; omega
        · have gd : decide (lvAt cur q ≤ lvAt cur p) = false := by simpa using hle
          have ST := Lib.hid (show lvStep cur ⟨p, q⟩ = cur by unfold lvStep; rw [if_neg hle])
          rw [ST.out] at TK
          go_wp2_with fail
          go_quiet (fail)
          have bD := below_drewN (Below.refl V.heap.size V) nq
          have OS := Lib.hid (own_below CH.out bD)
          have BN := Lib.hid (below_app BV.out bD BV.out.size)
          clear bD CH BV dq
          go_wp2_with fail
          go_roundw
          case rel => exact ⟨j + 1, by omega, by go_num, by rw [TK.out]; simp, by rw [TK.out]; exact OS.out, BN.out⟩
          case measure => simp [intOf]; omega
      · obtain rfl : n = j := by omega
        have TA : es.take n = es := List.take_of_length_le (by rw [EL.out]; exact Nat.le_refl _)
        rw [TA] at hc ⊢
        clear TA
        by_cases hst : lvRound es L = L
        · have FX := Lib.hid (lv_fix (r := r) EI.out (by rw [← HL.out]; exact hst))
          have OK := Lib.hid (show lvOk cat l = true by rw [LO.out, FX.out.2])
          have RS' := Lib.hid (show lvs cat l = L by rw [LV.out, ← FX.out.1, HL.out])
          rw [hst] at hc ⊢
          have HC := Lib.hid hc
          clear hst hc
          go_wp2_with fail
          go_ret2
          exact ⟨some ⟨w.heap.size, 0, none⟩, nc, nc, by rw [OK.out]; rfl, fun _ => by rw [RS'.out]; exact HC.out, hz⟩
        · have NS := Lib.hid hst
          have gd : decide (lvRound es L ≠ L) = true := by simp [hst]
          rw [gd]
          have hc' := hc
          rw [LNX.out] at hc'
          have HC := Lib.hid hc'
          clear hc hc' hst gd
          by_cases hr2 : nc < r
          · have OK := Lib.hid (show lvOk cat l = false by rw [LO.out, hF.out hr2])
            have r1 : (nc : Int) < r := by omega
            go_wp2_with fail
            go_ret2
            exact ⟨none, 0, 0, by rw [OK.out]; rfl, (fun h => by rw [OK.out] at h; cases h), hz⟩
          · have FN : nc < r + 1 → lvFix es nc = false := fun h => by
              have : r = nc := by omega
              exact lvFix_last (by rw [show lvIter es nc nc = L by rw [HL.out, this]]; exact NS.out)
            have r1 : ¬ (nc : Int) < r := by omega
            go_wp2_with fail
            go_roundw
            case rel => exact ⟨r + 1, by omega, by go_num, HC.out, hz, FN⟩
            case measure => simp [intOf]; omega
def lvRes (cat : List It) (l : List Bl) : List Int := if lvOk cat l then lvs cat l else []
theorem lvRes_yes {cat : List It} {l : List Bl} (h : lvOk cat l = true) : lvRes cat l = lvs cat l := by rw [lvRes, if_pos h]
theorem lvRes_no {cat : List It} {l : List Bl} (h : lvOk cat l = false) : lvRes cat l = [] := by rw [lvRes, h]; rfl
set_option maxRecDepth 100000 in
set_option maxHeartbeats 8000000 in
theorem specLevels (Ac : Option Addr) (nc cc : Nat) (cat : List It) (A : Option Addr) (n c : Nat) (l : List Bl) (w : World) (hrc : RS w 8 Ac nc (cat.flatMap itCell)) (hnc : nc ≤ 12) (hr : BillsR w A n l) (hn : n ≤ 24) (hin : ∀ x ∈ l, lineIn cat x) :
    Calls Try.prog 43 #[.slice Ac nc cc, .slice A n c] w fun e w' => ∃ B m d, e = .returned (.slice B m d) ∧ w'.ownsRow w.heap.size 3 1 (.slice B m d) m (intCells (lvRes cat l)) ∧ Below w.heap.size w w' := by
  have hlc := Lib.hid (hrc.flatLen itCell_len (by omega))
  have hl := Lib.hid hr.len
  have EL := Lib.hid (show (egs cat l).length = n by rw [egs, List.length_map]; exact hl.out)
  have EI := Lib.hid (show egIn (egs cat l) nc by rw [← hlc.out]; exact egs_in hin)
  have IN := Lib.hid hin
  have LV := Lib.hid (show lvs cat l = lvIter (egs cat l) nc nc by rw [lvs, hlc.out])
  have LO := Lib.hid (show lvOk cat l = lvFix (egs cat l) nc by rw [lvOk, hlc.out])
  have AT := Lib.hid (fun (j : Nat) (x : Bl) (h : l[j]? = some x) => egs_at (cat := cat) h)
  clear hin
  obtain ⟨es, hes⟩ : ∃ es, es = egs cat l := ⟨_, rfl⟩
  rw [← hes] at EL EI LV LO AT
  clear hes
  obtain ⟨i0, hi, hz0, hz1, hz2⟩ := info_parts numInfo
  go_enter Try.func43, Try.ntmps43
  go_wp2_with (at_make; refine wpList_make_full _ rfl _ _ _ rfl w.heap.size 3 i0 _ 1 Try.underlying77 hi hz0 hz1 _ _ _ _ nc rfl rfl rfl rfl (by rw [hz2]; omega) (by unfold maxLen; omega) (Nat.le_refl _) ?_; intro w1 hown1 hg1)
  rw [made_zero] at hown1
  have hb1 : Below w.heap.size w w1 := ⟨hg1.os, hg1.tape, hg1.output, hg1.size, fun k hk => hg1.block k hk (by simp)⟩
  clear hg1
  go_loopw [6] (fun rd wr => ∃ r : Nat, r ≤ nc + 1 ∧ rd = .int .i64 r ∧ wr.ownsRow w.heap.size 3 1 (.slice (some ⟨w.heap.size, 0, none⟩) nc nc) nc (intCells (lvIter es nc r)) ∧ Below w.heap.size w wr ∧ Hid (nc < r → lvFix es nc = false)) (fun rd _ => nc + 2 - (intOf rd).toNat)
  case atStart => exact ⟨0, by omega, rfl, hown1, hb1, fun h => absurd h (Nat.not_lt_zero _)⟩
  case round =>
    obtain ⟨r, hrn, rfl, ho, hb, hF⟩ := hrel
    clear hown1 hb1
    obtain ⟨wu, rfl⟩ : ∃ wu : World, wu = wr := ⟨_, rfl⟩
    by_cases hr2 : nc < r
    · have OK := Lib.hid (show lvOk cat l = false by rw [LO.out, hF.out hr2])
      have r1 : ¬ (r : Int) ≤ nc := by omega
      have OE := own_empty wu w.heap.size 3 1 hb.size
      have BE := hb.alloc hb.size (Obj.cells #[] 3)
      clear ho
      go_wp2_with fail
      go_ret
      exact ⟨some ⟨wu.heap.size, 0, none⟩, 0, 0, rfl, by rw [lvRes_no OK.out]; exact OE, BE⟩
    have r0 : (r : Int) ≤ nc := by omega
    obtain ⟨L, hL⟩ : ∃ L, L = lvIter es nc r := ⟨_, rfl⟩
    have LE := Lib.hid (show L.length = nc by rw [hL]; exact lvIter_len _ _ _)
    have MID := Lib.hid (fun (j i : Nat) (hj : j ≤ es.length) => lv_mid EI.out r j i hj)
    have MONO := Lib.hid (fun (j i : Nat) => lvRound_mono (es := es.take j) (out := L) (by rw [LE.out]; exact egIn_take EI.out j) i)
    have LNX := Lib.hid (show lvRound es L = lvIter es nc (r + 1) by rw [hL]; rfl)
    have HL := Lib.hid hL
    rw [← hL] at MID ho
    clear hL
    go_wp2_with fail
    go_loopw [7, 8] (fun ch i wz => ∃ j : Nat, j ≤ n ∧ i = .int .i64 j ∧ ch = .bool (decide (lvRound (es.take j) L ≠ L)) ∧ wz.ownsRow w.heap.size 3 1 (.slice (some ⟨w.heap.size, 0, none⟩) nc nc) nc (intCells (lvRound (es.take j) L)) ∧ Below w.heap.size w wz) (fun _ i _ => n - (intOf i).toNat)
    case atStart => exact ⟨0, Nat.zero_le _, rfl, by simp [lvRound], by simpa [lvRound] using ho, hb⟩
    case round =>
      obtain ⟨j, hj, rfl, rfl, hc, hz⟩ := hrel
      have zz := hz.size
      by_cases hlt : j < n
      · obtain ⟨g, off, rfl, ⟨par, part, qty, fr, un, cond⟩, eA, en, ec, hx, c0, c1, -, -, -, -, -⟩ := (hr.below hz).blAt hlt
        simp only at c0 c1
        have hli := IN.out _ (List.mem_of_getElem? hx)
        obtain ⟨p, hp⟩ := Int.eq_ofNat_of_zero_le hli.1
        obtain ⟨q, hq⟩ := Int.eq_ofNat_of_zero_le hli.2
        simp only at hp hq
        have hat := AT.out j _ hx
        have heg : egOf cat ⟨par, part, qty, fr, un, cond⟩ = ⟨p, q⟩ := by simp [egOf, hp, hq]
        rw [heg] at hat
        have hpq := EI.out _ (List.mem_of_getElem? hat)
        simp only at hpq
        have hp1 : p < nc := hpq.1
        have hq1 : q < nc := hpq.2
        have TK := Lib.hid (lvRound_take (L := L) hat)
        have m1 := MID.out j p (by rw [EL.out]; exact hj)
        have m2 := MID.out j q (by rw [EL.out]; exact hj)
        rw [EL.out] at m1 m2
        have mm : (r : Int) * n ≤ 13 * 24 := Int.mul_le_mul (by omega) (by omega) (by omega) (by omega)
        have MO := Lib.hid (MONO.out j)
        have CL := Lib.hid (show (lvRound (es.take j) L).length = nc by rw [lvRound_len, LE.out])
        obtain ⟨cur, hcur⟩ : ∃ cur, cur = lvRound (es.take j) L := ⟨_, rfl⟩
        rw [← hcur] at hc m1 m2 MO TK CL ⊢
        clear hcur hat heg hpq hli hx
        have HP := Lib.hid hp; have HQ := Lib.hid hq
        clear hp hq
        have k1 : (0 : Int) ≤ j := by omega
        have k2 : (j : Int) < n := by omega
        go_wp2_with fail
        refine (specFind Ac nc cc cat par wr (hrc.below hz) (by omega)).mono ?_; rw [HP.out]; rintro e w2 ⟨rfl, h2⟩
        have c1 := cell_keep h2 c1
        have hc2 := own_below hc h2
        have hz2 := below_app hz h2 hz.size
        clear hc h2 hz c0
        go_wp2_with fail
        refine (specFind Ac nc cc cat part w2 (hrc.below hz2) (by omega)).mono ?_; rw [HQ.out]; rintro e V ⟨rfl, h3⟩
        have CV := own_below hc2 h3
        have BV := Lib.hid (below_app hz2 h3 hz2.size)
        clear hc2 h3 hz2 c1
        obtain ⟨_, e1, _, dq, _, _⟩ := int_own CV hq1
        obtain ⟨_, e2, _, dp, _, _⟩ := int_own CV hp1
        injection e1 with e1; injection e1 with e1
        injection e2 with e2; injection e2 with e2
        subst e1
        subst e2
        have CH := Lib.hid CV
        have wk : IntKind.i64.wrap (lvAt cur p + 1) = lvAt cur p + 1 := IntWalk.i64_in _ (by omega)
        clear CV
        by_cases hle : lvAt cur q ≤ lvAt cur p
        · have gd : decide (lvAt cur q < lvAt cur p + 1) = true := by simp; omega
          have NE := Lib.hid (lvStep_new (out0 := L) (out := cur) (e := ⟨p, q⟩) (by rw [CL.out]; exact hq1) MO.out hle)
          have ST := Lib.hid (show lvStep cur ⟨p, q⟩ = cur.set q (lvAt cur p + 1) by unfold lvStep; rw [if_pos hle])
          rw [ST.out] at TK NE
          have gl : lvAt cur q < lvAt cur p + 1 := by omega
          go_wp2_with fail
          go_quiet (fail)
          have bD := below_drewN (Below.refl V.heap.size V) nq
          obtain ⟨V2, hV2⟩ : ∃ V2, V2 = V.drewN nq := ⟨_, rfl⟩
          rw [← hV2] at bD ⊢
          obtain ⟨_, e1, _, _, fq, SQ⟩ := int_own (own_below CH.out bD) hq1
          obtain ⟨_, e2, _, dp, _, _⟩ := int_own (own_below CH.out bD) hp1
          injection e1 with e1; injection e1 with e1
          injection e2 with e2; injection e2 with e2
          subst e1
          subst e2
          have OS := Lib.hid (SQ (lvAt cur p + 1))
          have BN := Lib.hid ((below_app BV.out bD BV.out.size).setCell (p := ⟨w.heap.size, q, none⟩) (Nat.le_refl _) (.int .i64 (lvAt cur p + 1)))
          clear hV2 bD SQ CH BV dq
          go_wp2_with fail
          go_roundw
          case rel => exact ⟨j + 1, by omega, by go_num, by rw [TK.out]; simp [NE.out], by rw [TK.out]; exact OS.out, BN.out⟩
          case measure => simp [intOf]; omega
        · have gd : decide (lvAt cur q < lvAt cur p + 1) = false := by simp; omega
          have ST := Lib.hid (show lvStep cur ⟨p, q⟩ = cur by unfold lvStep; rw [if_neg hle])
          rw [ST.out] at TK
          have gl : ¬ lvAt cur q < lvAt cur p + 1 := by omega
          go_wp2_with fail
          go_quiet (fail)
          have bD := below_drewN (Below.refl V.heap.size V) nq
          have OS := Lib.hid (own_below CH.out bD)
          have BN := Lib.hid (below_app BV.out bD BV.out.size)
          clear bD CH BV dq
          go_wp2_with fail
          go_roundw
          case rel => exact ⟨j + 1, by omega, by go_num, by rw [TK.out]; simp, by rw [TK.out]; exact OS.out, BN.out⟩
          case measure => simp [intOf]; omega
      · obtain rfl : n = j := by omega
        have TA : es.take n = es := List.take_of_length_le (by rw [EL.out]; exact Nat.le_refl _)
        rw [TA] at hc ⊢
        clear TA
        by_cases hst : lvRound es L = L
        · have FX := Lib.hid (lv_fix (r := r) EI.out (by rw [← HL.out]; exact hst))
          have OK := Lib.hid (show lvOk cat l = true by rw [LO.out, FX.out.2])
          have RS' := Lib.hid (show lvs cat l = L by rw [LV.out, ← FX.out.1, HL.out])
          rw [hst] at hc ⊢
          have HC := Lib.hid hc
          clear hst hc
          go_wp2_with fail
          go_ret
          exact ⟨some ⟨w.heap.size, 0, none⟩, nc, nc, rfl, by rw [lvRes_yes OK.out, RS'.out]; exact HC.out, hz⟩
        · have NS := Lib.hid hst
          have gd : decide (lvRound es L ≠ L) = true := by simp [hst]
          rw [gd]
          have hc' := hc
          rw [LNX.out] at hc'
          have HC := Lib.hid hc'
          clear hc hc' hst gd
          have FN : nc < r + 1 → lvFix es nc = false := fun h => by
            have : r = nc := by omega
            exact lvFix_last (by rw [show lvIter es nc nc = L by rw [HL.out, this]]; exact NS.out)
          go_wp2_with fail
          go_roundw
          case rel => exact ⟨r + 1, by omega, by go_num, HC.out, hz, FN⟩
          case measure => simp [intOf]; omega
end Go.Proofs.Ytnhkpdaogclfjaa
