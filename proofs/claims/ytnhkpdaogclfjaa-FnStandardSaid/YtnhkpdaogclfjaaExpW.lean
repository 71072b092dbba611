/- Explosions: the walks of pieces, needs, Explosion. No condition. -/
import Derived.Test.YtnhkpdaogclfjaaExpP
import Derived.Deep.RegionHeld3
namespace Go.Proofs.Ytnhkpdaogclfjaa
open Go.ChangeShapes Go.WideShapes Go.ChangeAt Go.RowKit

def byAt (cat : List It) (f : ByteArray → Int) (j : Nat) : Int := match cat[j]? with | some x => f x.code | none => 0
theorem byAt_of {cat : List It} {f : ByteArray → Int} {j : Nat} {x : It} (h : cat[j]? = some x) : byAt cat f j = f x.code := by simp [byAt, h]
theorem first_list (nc f : Nat) (hf : f < nc) (j : Nat) : lvAt ((List.replicate nc 0).set f 1) j = if j = f then 1 else 0 := by
  rw [lvAt_set (by simpa using hf)]
  split
  · rfl
  · unfold lvAt
    rw [List.getD_eq_getElem?_getD, List.getElem?_replicate]
    split <;> rfl
theorem qadd_bd {a b q : Int} (h1 : 0 ≤ a) (h2 : a ≤ 1000000000) (h3 : 0 ≤ b) (h4 : b ≤ 1000000000) (h5 : 1 ≤ q) (h6 : q ≤ 1000) : 0 ≤ b * q ∧ b * q ≤ 1000000000000 ∧ 0 ≤ a + b * q ∧ a + b * q ≤ 1001000000000 := by
  have x := Int.mul_nonneg h3 (show 0 ≤ q by omega)
  have y := Int.mul_le_mul h4 h6 (show 0 ≤ q by omega) (show (0 : Int) ≤ 1000000000 by omega)
  omega
theorem implAll (x : It) (w : World) : Calls Try.prog 59 #[itAgg x] w fun e w' => e = .returned (.bool true) ∧ Below w.heap.size w w' := by
  obtain ⟨code, unit, kind, lead, rule, size, safety, scrap⟩ := x
  go_enter Try.func59, Try.ntmps59
  go_wp2_with fail
  go_ret
  exact ⟨rfl, by go_grown⟩
def PcEnd (w : World) (nc : Nat) (cat : List It) (pc Tc : ByteArray → Int) (s : It) (e : Ending) (w' : World) : Prop :=
  ∃ (B : Option Addr) (m d : Nat) (b : Bool) (o : List Int), e = .returned (.tuple #[.slice B m d, .bool b]) ∧
    (b = true → w'.ownsRow w.heap.size 3 1 (.slice B m d) m (intCells o) ∧ m = nc ∧ (∀ j, j < nc → 0 ≤ lvAt o j ∧ lvAt o j ≤ 1000000000) ∧ dot (lvAt o) (byAt cat pc) nc + pc s.code = Tc s.code) ∧ Below w.heap.size w w'
set_option maxRecDepth 100000 in
set_option maxHeartbeats 1000000 in
theorem implPieces (Tc pc : ByteArray → Int) (Ac : Option Addr) (nc cc : Nat) (cat : List It) (A : Option Addr) (n c : Nat) (act : List Bl) (f : Nat) (s : It) (w : World) (hrc : RS w 8 Ac nc (cat.flatMap itCell)) (hnc : nc ≤ 12) (hcat : isCat cat = true) (hr : BillsR w A n act) (hn : n ≤ 24)
    (hin : ∀ x ∈ act, lineIn cat x) (hlv : lvOk cat act = true) (hq : ∀ x ∈ act, 1 ≤ x.qty ∧ x.qty ≤ 1000) (hs : cat[f]? = some s) (hT : ∀ (i : Nat) (x : It), cat[i]? = some x → Tc x.code = pc x.code + lsum (lnPart Tc x.code) act) :
    Calls Try.prog 60 #[.slice Ac nc cc, .slice A n c, .int .i64 f, .int .i64 1, .func (.func 59) #[] #[]] w (PcEnd w nc cat pc Tc s) := by
  have hlc := Lib.hid (hrc.flatLen itCell_len (by omega))
  have hl := Lib.hid hr.len
  have hf : f < nc := by rw [← hlc.out]; exact (List.getElem?_eq_some_iff.1 hs).1
  have IN := Lib.hid hin
  have HQ := Lib.hid hq
  have HT := Lib.hid hT
  have HC := Lib.hid hcat
  have HS := Lib.hid hs
  obtain ⟨L, hL⟩ : ∃ L, L = lvs cat act := ⟨_, rfl⟩
  have LL := Lib.hid (show L.length = nc by rw [hL, lvs_len, hlc.out])
  have EI := egs_in hin
  have LB := Lib.hid (show ∀ i, i < nc → 0 ≤ lvAt L i ∧ lvAt L i < nc by
    intro i hi
    have h1 : lvRound (egs cat act) (lvs cat act) = lvs cat act := by simpa [lvOk, lvFix, lvs] using hlv
    have := lv_small (r := cat.length) EI h1 (i := i) (by rw [hlc.out]; exact hi)
    rw [hlc.out] at this
    rw [hL, lvs, hlc.out]; exact this)
  have LU := Lib.hid (show ∀ x ∈ act, lvAt L (findAt cat x.par).toNat < lvAt L (findAt cat x.part).toNat by
    intro x hx
    have h1 : lvRound (egs cat act) (lvs cat act) = lvs cat act := by simpa [lvOk, lvFix, lvs] using hlv
    rw [hL]
    exact lvRound_still (by rw [lvs_len]; exact EI) h1 (egOf cat x) (List.mem_map.2 ⟨x, hx, rfl⟩))
  clear EI hq hT hcat hs
  obtain ⟨i0, hi, hz0, hz1, hz2⟩ := info_parts numInfo
  have f1 : (0 : Int) ≤ f := by omega
  have f2 : (f : Int) < nc := by omega
  go_enter Try.func60, Try.ntmps60
  go_wp2_with (at_make; refine wpList_make_full _ rfl _ _ _ rfl w.heap.size 3 i0 _ 1 Try.underlying77 hi hz0 hz1 _ _ _ _ nc rfl rfl rfl rfl (by rw [hz2]; omega) (by unfold maxLen; omega) (Nat.le_refl _) ?_; intro w1 hown1 hg1; rw [made_zero] at hown1; have hb1 : Below w.heap.size w w1 := ⟨hg1.os, hg1.tape, hg1.output, hg1.size, fun k hk => hg1.block k hk (by simp)⟩; clear hg1; obtain ⟨_, e1, _, dk, fk, SK⟩ := int_own hown1 hf; injection e1 with e1; injection e1 with e1; subst e1; have O2 := SK 1; have B2 := Lib.hid (hb1.setCell (p := ⟨w.heap.size, f, none⟩) (Nat.le_refl _) (.int .i64 1)); have z1 := (hown1.lt _ rfl).2)
  obtain ⟨W1, hW1⟩ : ∃ W1, W1 = w1.setCell ⟨w.heap.size, f, none⟩ (.int .i64 1) := ⟨_, rfl⟩
  have zW : W1.heap.size = w1.heap.size := by rw [hW1]; simp [World.setCell]
  rw [← hW1] at O2 B2 ⊢
  have RC := Lib.hid (hrc.below B2.out); have RL := Lib.hid (hr.below B2.out)
  clear hW1 hb1 hown1 SK dk
  refine (implLevels _ _ cc cat _ _ c act W1 RC.out hnc RL.out hn IN.out).mono ?_; rintro e w2 ⟨B, m, d, rfl, LV0, hb2⟩
  have LV := LV0 hlv
  rw [hlv]
  rw [← hL] at LV
  clear LV0 RC RL hL
  have hm := own_ints LV
  rw [LL.out] at hm
  subst hm
  obtain ⟨gl, rfl, hgl, -, -, -⟩ := int_own LV hf
  have O3 := own_below O2 hb2
  have B3 := below_app B2.out hb2 (by have := B2.out.size; omega)
  have LV := own_base LV (show w.heap.size + 1 ≤ W1.heap.size by omega)
  have P0 : PInv nc f (lvAt L) (byAt cat pc) (byAt cat Tc) (Tc s.code) (behind (lvAt L) 0 0) (lvAt ((List.replicate nc 0).set f 1)) := by
    rw [show lvAt ((List.replicate nc 0).set f 1) = fun j => if j = f then 1 else 0 from funext fun j => first_list nc f hf j]
    exact PInv.first hf (fun j hj => (LB.out j hj).1) (byAt_of HS.out)
  have P0 := Lib.hid P0
  clear hb2 O2 B2 hlv
  go_wp2_with fail
  go_loopw [15] (fun lv wr => ∃ (q : Nat) (o : List Int), q ≤ nc + 1 ∧ lv = .int .i64 q ∧ wr.ownsRow w.heap.size 3 1 (.slice (some ⟨w.heap.size, 0, none⟩) nc nc) nc (intCells o) ∧ wr.ownsRow (w.heap.size + 1) 3 1 (.slice (some ⟨gl, 0, none⟩) nc d) nc (intCells L) ∧ Below w.heap.size w wr ∧ Hid (PInv nc f (lvAt L) (byAt cat pc) (byAt cat Tc) (Tc s.code) (behind (lvAt L) q 0) (lvAt o))) (fun lv _ => nc + 2 - (intOf lv).toNat)
  case atStart => exact ⟨0, _, by omega, rfl, O3, LV, B3, P0.out⟩
  case round =>
    obtain ⟨q, o, hqn, rfl, ho, hlvl, hb, hP⟩ := hrel
    clear O3 LV B3 P0
    by_cases hlt : q ≤ nc
    · have q1 : (q : Int) ≤ nc := by omega
      go_wp2_with fail
      go_loopw [42] (fun i wz => ∃ (j : Nat) (o : List Int), j ≤ nc ∧ i = .int .i64 j ∧ wz.ownsRow w.heap.size 3 1 (.slice (some ⟨w.heap.size, 0, none⟩) nc nc) nc (intCells o) ∧ wz.ownsRow (w.heap.size + 1) 3 1 (.slice (some ⟨gl, 0, none⟩) nc d) nc (intCells L) ∧ Below w.heap.size w wz ∧ Hid (PInv nc f (lvAt L) (byAt cat pc) (byAt cat Tc) (Tc s.code) (behind (lvAt L) q j) (lvAt o))) (fun i _ => nc - (intOf i).toNat)
      case atStart => exact ⟨0, o, by omega, rfl, ho, hlvl, hb, hP⟩
      case round =>
        clear ho hlvl hb hP
        obtain ⟨j, o, hj, rfl, ho, hlvl, hb, hP⟩ := hrel
        have hz := hb.size
        by_cases hjn : j < nc
        · obtain ⟨g, off, rfl, ⟨code, unit, kind, lead, rule, size, safety, scrap⟩, hx, c0, c1, c2, c3, c4, c5, c6, c7⟩ := (hrc.below hb).itAt hjn
          simp only at c0 c1 c2 c3 c4 c5 c6 c7
          have HX := Lib.hid hx; clear hx
          have j1 : (0 : Int) ≤ j := by omega
          have j2 : (j : Int) < nc := by omega
          have lb := LB.out j hjn
          have bx := below_box wr (Obj.cells #[.string code, .string unit, .int .i64 kind, .int .i64 lead, .int .i64 rule, .int .i64 size, .int .i64 safety, .int .i64 scrap] 64)
          obtain ⟨U, hU⟩ : ∃ U, U = wr.alloc (Obj.cells #[.string code, .string unit, .int .i64 kind, .int .i64 lead, .int .i64 rule, .int .i64 size, .int .i64 safety, .int .i64 scrap] 64) := ⟨_, rfl⟩
          have XU := Lib.hid (show U.heap[wr.heap.size]? = some (Obj.cells #[.string code, .string unit, .int .i64 kind, .int .i64 lead, .int .i64 rule, .int .i64 size, .int .i64 safety, .int .i64 scrap] 64 (0, 0)) by rw [hU]; exact blk_new1 _ _)
          have BU := Lib.hid (show Below w.heap.size w U by rw [hU]; exact below_app hb bx hz)
          have OU := (show U.ownsRow w.heap.size 3 1 (.slice (some ⟨w.heap.size, 0, none⟩) nc nc) nc (intCells o) by rw [hU]; exact own_below ho bx)
          have LU' := (show U.ownsRow (w.heap.size + 1) 3 1 (.slice (some ⟨gl, 0, none⟩) nc d) nc (intCells L) by rw [hU]; exact own_below hlvl bx)
          go_upto_region 10 with fail
          rw [← hU]
          obtain ⟨xb, hxb⟩ : ∃ xb, xb = wr.heap.size := ⟨_, rfl⟩
          have xg : xb ≠ w.heap.size := by have : w.heap.size < wr.heap.size := (ho.lt _ rfl).2; omega
          rw [← hxb] at XU ⊢
          clear hxb hU c0 c1 c2 c3 c4 c5 c6 c7 bx ho hlvl hb hz
          obtain ⟨_, e1, _, dl, _, _⟩ := int_own LU' hjn
          obtain ⟨_, e2, _, do_, _, _⟩ := int_own OU hjn
          injection e1 with e1; injection e1 with e1
          injection e2 with e2; injection e2 with e2
          subst e1
          subst e2
          by_cases hle : lvAt L j = q
          rotate_left
          · have ne1 : (lvAt L j != (q : Int)) = true := by simpa using hle
            have x0 := blk_at XU.out (j := 0) rfl; have x1 := blk_at XU.out (j := 1) rfl; have x2 := blk_at XU.out (j := 2) rfl; have x3 := blk_at XU.out (j := 3) rfl; have x4 := blk_at XU.out (j := 4) rfl; have x5 := blk_at XU.out (j := 5) rfl; have x6 := blk_at XU.out (j := 6) rfl; have x7 := blk_at XU.out (j := 7) rfl
            have PS := Lib.hid (hP.out.skip (.inl hle))
            go_wp2_with fail
            go_roundw
            case rel => exact ⟨j + 1, o, by omega, by go_num, OU, LU', BU.out, PS.out⟩
            case measure => simp [intOf]; omega
          by_cases ho0 : lvAt o j = 0
          · have n0 : (lvAt o j == 0) = true := by simpa using ho0
            have ne1 : (lvAt L j != (q : Int)) = false := by simpa using hle
            have PS := Lib.hid (hP.out.skip (.inr ho0))
            clear hle ho0
            have x0 := blk_at XU.out (j := 0) rfl; have x1 := blk_at XU.out (j := 1) rfl; have x2 := blk_at XU.out (j := 2) rfl; have x3 := blk_at XU.out (j := 3) rfl; have x4 := blk_at XU.out (j := 4) rfl; have x5 := blk_at XU.out (j := 5) rfl; have x6 := blk_at XU.out (j := 6) rfl; have x7 := blk_at XU.out (j := 7) rfl
            go_wp2_with fail
            go_roundw
            case rel => exact ⟨j + 1, o, by omega, by go_num, OU, LU', BU.out, PS.out⟩
            case measure => simp [intOf]; omega
          have n0 : (lvAt o j == 0) = false := by simpa using ho0
          have ne1 : (lvAt L j != (q : Int)) = false := by simpa using hle
          have HN := Lib.hid ho0
          have HLE := Lib.hid hle
          have PM := Lib.hid (hP.out.item hjn hle (r := lsum (lnPart Tc code) act) (by rw [byAt_of HX.out, byAt_of HX.out]; exact HT.out _ _ HX.out))
          clear hle ho0 hP
          by_cases hjf : f = j
          · subst hjf
            have x0 := blk_at XU.out (j := 0) rfl; have x1 := blk_at XU.out (j := 1) rfl; have x2 := blk_at XU.out (j := 2) rfl; have x3 := blk_at XU.out (j := 3) rfl; have x4 := blk_at XU.out (j := 4) rfl; have x5 := blk_at XU.out (j := 5) rfl; have x6 := blk_at XU.out (j := 6) rfl; have x7 := blk_at XU.out (j := 7) rfl
            obtain ⟨V, hV⟩ : ∃ V, V = U := ⟨_, rfl⟩
            have BV := Lib.hid (show Below w.heap.size w V by rw [hV]; exact BU.out)
            have XV := Lib.hid (show V.heap[xb]? = some (Obj.cells #[.string code, .string unit, .int .i64 kind, .int .i64 lead, .int .i64 rule, .int .i64 size, .int .i64 safety, .int .i64 scrap] 64 (0, 0)) by rw [hV]; exact XU.out)
            have OV := Lib.hid (show V.ownsRow w.heap.size 3 1 (.slice (some ⟨w.heap.size, 0, none⟩) nc nc) nc (intCells o) by rw [hV]; exact OU)
            have LV := Lib.hid (show V.ownsRow (w.heap.size + 1) 3 1 (.slice (some ⟨gl, 0, none⟩) nc d) nc (intCells L) by rw [hV]; exact LU')
            have GV := Lib.hid (grown_of_belowM (some w.heap.size) (Below.refl V.heap.size V))
            go_upto_region 11 with fail
            rw [← hV]
            clear hV XU BU OU LU' dl do_ x0 x1 x2 x3 x4 x5 x6 x7 n0 ne1
            go_wp2_with fail
            go_loopw [73] (fun i wz => ∃ (k : Nat) (o2 : List Int), k ≤ n ∧ i = .int .i64 k ∧ wz.ownsRow w.heap.size 3 1 (.slice (some ⟨w.heap.size, 0, none⟩) nc nc) nc (intCells o2) ∧ wz.ownsRow (w.heap.size + 1) 3 1 (.slice (some ⟨gl, 0, none⟩) nc d) nc (intCells L) ∧ V.grownBy wz (some w.heap.size) ∧ Hid (lvAt o2 f ≠ 0) ∧ Hid (PMid nc f (lvAt L) (byAt cat pc) (byAt cat Tc) (Tc s.code) (behind (lvAt L) q (f + 1)) f (lsum (lnPart Tc code) (act.drop k)) (lvAt o2))) (fun i _ => n - (intOf i).toNat)
            case atStart => exact ⟨0, o, Nat.zero_le _, rfl, OV.out, LV.out, GV.out, HN, PM⟩
            case round =>
              obtain ⟨k, o2, hk, rfl, ho, hlvl, hg, hnz, hpm⟩ := hrel
              clear OV LV GV HN PM
              have hbz := below_gr BV.out hg
              by_cases hkn : k < n
              · obtain ⟨ga, offa, rfl, ⟨par, part, qty, fr, un, cond⟩, eA, en, ec, hxl, c0, c1, c2, c3, c4, c5, -⟩ := (hr.below hbz).blAt hkn
                simp only at c0 c1 c2 c3 c4
                have hmem := List.mem_of_getElem? hxl
                have hqq := HQ.out _ hmem
                have hli := IN.out _ hmem
                have hlu := LU.out _ hmem
                have DR := Lib.hid (lsum_drop (f := lnPart Tc code) hxl)
                simp only at hqq hlu
                clear hxl hmem
                have k1 : (0 : Int) ≤ k := by omega
                have k2 : (k : Int) < n := by omega
                obtain ⟨U2, hU2⟩ : ∃ U2, U2 = wr.alloc (Obj.cells #[.string par, .string part, .int .i64 qty, .int .i64 fr, .int .i64 un, .slice eA en ec] 82) := ⟨_, rfl⟩
                have XL := Lib.hid (show U2.heap[wr.heap.size]? = some (Obj.cells #[.string par, .string part, .int .i64 qty, .int .i64 fr, .int .i64 un, .slice eA en ec] 82 (0, 0)) by rw [hU2]; exact blk_new1 _ _)
                have XI := Lib.hid (show U2.heap[xb]? = some (Obj.cells #[.string code, .string unit, .int .i64 kind, .int .i64 lead, .int .i64 rule, .int .i64 size, .int .i64 safety, .int .i64 scrap] 64 (0, 0)) by rw [hU2]; exact blk_alloc (blk_gr hg XV.out xg) _)
                have bx2 := below_box wr (Obj.cells #[.string par, .string part, .int .i64 qty, .int .i64 fr, .int .i64 un, .slice eA en ec] 82)
                have GU := Lib.hid (show V.grownBy U2 (some w.heap.size) by rw [hU2]; exact hg.trans (grown_of_belowM _ bx2))
                have OU := Lib.hid (show U2.ownsRow w.heap.size 3 1 (.slice (some ⟨w.heap.size, 0, none⟩) nc nc) nc (intCells o2) by rw [hU2]; exact own_below ho bx2)
                have LU2 := Lib.hid (show U2.ownsRow (w.heap.size + 1) 3 1 (.slice (some ⟨gl, 0, none⟩) nc d) nc (intCells L) by rw [hU2]; exact own_below hlvl bx2)
                have xlb : wr.heap.size ≠ w.heap.size := by have : w.heap.size < wr.heap.size := (ho.lt _ rfl).2; omega
                go_upto_region 14 with fail
                rw [← hU2]
                obtain ⟨xl, hxl⟩ : ∃ xl, xl = wr.heap.size := ⟨_, rfl⟩
                rw [← hxl] at XL xlb ⊢
                clear hxl hU2 c0 c1 c2 c3 c4 c5 bx2 ho hlvl hg hbz
                have y0 := blk_at XL.out (j := 0) rfl; have y1 := blk_at XL.out (j := 1) rfl; have y2 := blk_at XL.out (j := 2) rfl
                have x0 := blk_at XI.out (j := 0) rfl
                by_cases hp : par = code
                rotate_left
                · have ZR := Lib.hid (show lnPart Tc code ⟨par, part, qty, fr, un, cond⟩ = 0 by unfold lnPart; rw [if_neg hp])
                  have ne := text_ne hp
                  have nb : (par.toList == code.toList) = false := by simpa using ne
                  clear hp
                  go_wp2_with fail
                  go_roundw
                  case rel => exact ⟨k + 1, o2, by omega, by go_num, OU.out, LU2.out, GU.out, hnz, by have h := hpm.out; rw [DR.out, ZR.out, Int.zero_add] at h; exact h⟩
                  case measure => simp [intOf]; omega
                · subst hp
                  obtain ⟨p, hpp⟩ := Int.eq_ofNat_of_zero_le hli.2
                  simp only at hpp
                  have HP := Lib.hid hpp
                  have FI := implFind _ nc cc cat part U2 (hrc.below (below_gr BV.out GU.out)) (by omega)
                  rw [hpp] at FI
                  clear hpp
                  go_wp2_with fail
                  refine FI.mono ?_; rintro e w4 ⟨rfl, hb4⟩
                  have hp1 : p < nc := by have h := findAt_lt hli.2; simp only at h; rw [HP.out, hlc.out] at h; omega
                  have bo := hpm.out.bd p hp1
                  have bj := hpm.out.bd f hjn
                  have qb := qadd_bd bo.1 bo.2 bj.1 bj.2 hqq.1 hqq.2
                  have wk1 : IntKind.i64.wrap (lvAt o2 f * qty) = lvAt o2 f * qty := IntWalk.i64_in _ (by omega)
                  have wk2 : IntKind.i64.wrap (lvAt o2 p + lvAt o2 f * qty) = lvAt o2 p + lvAt o2 f * qty := IntWalk.i64_in _ (by omega)
                  have O4 := own_below OU.out hb4
                  have L4 := Lib.hid (own_below LU2.out hb4)
                  have G4 := Lib.hid (GU.out.trans (grown_of_belowM (some w.heap.size) hb4))
                  have X4 := Lib.hid (blk_keep hb4 XL.out)
                  have Y4 := Lib.hid (blk_keep hb4 XI.out)
                  clear x0 y0 y1 y2 OU LU2 GU XL XI hb4
                  have y2 := blk_at X4.out (j := 2) rfl
                  obtain ⟨_, e1, _, dj, _, _⟩ := int_own O4 hjn
                  obtain ⟨_, e2, _, dp, fp, SP⟩ := int_own O4 hp1
                  injection e1 with e1; injection e1 with e1
                  injection e2 with e2; injection e2 with e2
                  subst e1
                  subst e2
                  have p1 : (0 : Int) ≤ p := by omega
                  have p2 : (p : Int) < nc := by omega
                  go_wp2_with fail
                  go_region
                  obtain ⟨v, hv⟩ : ∃ v, v = lvAt o2 p + lvAt o2 f * qty := ⟨_, rfl⟩
                  have O5 : (w4.setCell ⟨w.heap.size, p, none⟩ (.int .i64 v)).drew.ownsRow w.heap.size 3 1 (.slice (some ⟨w.heap.size, 0, none⟩) nc nc) nc (intCells (o2.set p v)) := SP v
                  have L5 : (w4.setCell ⟨w.heap.size, p, none⟩ (.int .i64 v)).drew.ownsRow (w.heap.size + 1) 3 1 (.slice (some ⟨gl, 0, none⟩) nc d) nc (intCells L) := own_setlow (p := ⟨w.heap.size, p, none⟩) L4.out (Nat.lt_succ_self _) (.int .i64 v)
                  have G5 : V.grownBy (w4.setCell ⟨w.heap.size, p, none⟩ (.int .i64 v)).drew (some w.heap.size) := have h := G4.out.trans (grown_set w4 ⟨w.heap.size, p, none⟩ (.int .i64 v)); ⟨h.os, h.tape, h.output, h.size, h.block⟩
                  have F1 : (findAt cat par).toNat = f := by rw [find_self HC.out HX.out]; rfl
                  have F2 : (findAt cat part).toNat = p := by rw [HP.out]; rfl
                  rw [F1, F2] at hlu
                  have LO := own_ints O4
                  have AT := Lib.hid (fun i => lvAt_set (out := o2) (q := p) (v := v) (by rw [LO]; exact hp1) i)
                  have TP : byAt cat Tc p = Tc part := by
                    obtain ⟨k', x', e', hx', hc'⟩ := findAt_some hli.2
                    simp only at e' hc'
                    rw [HP.out] at e'
                    obtain rfl : p = k' := by omega
                    rw [byAt_of hx', hc']
                  have PN := Lib.hid (show v ≤ 1000000000 → PMid nc f (lvAt L) (byAt cat pc) (byAt cat Tc) (Tc s.code) (behind (lvAt L) q (f + 1)) f (lsum (lnPart Tc par) (act.drop (k + 1))) (lvAt (o2.set p v)) from fun hle => by
                    have h := hpm.out
                    rw [DR.out, lnPart, if_pos rfl] at h
                    simp only at h
                    rw [← TP] at h
                    exact h.line hjn hp1 HLE.out hlu (by omega) hnz.out (fun i => by rw [AT.out i, hv]) (by rw [← hv]; exact hle))
                  have NZ := Lib.hid (show lvAt (o2.set p v) f ≠ 0 by rw [AT.out f, if_neg (fun e => by rw [← e] at hlu; omega)]; exact hnz.out)
                  rw [← hv]
                  obtain ⟨V5, hV5⟩ : ∃ V5, V5 = (w4.setCell ⟨w.heap.size, p, none⟩ (.int .i64 v)).drew := ⟨_, rfl⟩
                  rw [← hV5] at O5 L5 G5 ⊢
                  have vb : 0 ≤ v ∧ v ≤ 1001000000000 := by rw [hv]; exact ⟨qb.2.2.1, qb.2.2.2⟩
                  clear hV5 hv SP dp fp dj O4 L4 G4 X4 Y4 y2 wk1 wk2 qb bo bj hlu TP LO F1 F2
                  obtain ⟨_, e2, _, dp, _, _⟩ := int_own O5 hp1
                  injection e2 with e2; injection e2 with e2
                  subst e2
                  have VP : lvAt (o2.set p v) p = v := by rw [AT.out p, if_pos rfl]
                  rw [VP] at dp
                  clear VP
                  have O6 := Lib.hid O5; have L6 := Lib.hid L5; have G6 := Lib.hid G5
                  clear O5 L5 G5
                  by_cases hgt : 1000000000 < v
                  · go_wp2_with fail
                    go_ret2
                    exact ⟨none, 0, 0, false, [], rfl, (fun h => by cases h), below_gr BV.out G6.out⟩
                  · go_wp2_with fail
                    go_roundw
                    case rel => exact ⟨k + 1, o2.set p v, by omega, by go_num, O6.out, L6.out, G6.out, NZ.out, PN.out (by omega)⟩
                    case measure => simp [intOf]; omega
              · obtain rfl : n = k := by omega
                have PD := hpm.out
                rw [lsum_done (by rw [hl.out]; exact Nat.le_refl _)] at PD
                have PE := Lib.hid PD.done
                clear PD
                go_wp2_with fail
                go_roundw
                case rel => exact ⟨f + 1, o2, by omega, by go_num, ho, hlvl, hbz, PE.out⟩
                case measure => simp [intOf]; omega
          · have jf : ¬ (j : Int) = f := by omega
            have x0 := blk_at XU.out (j := 0) rfl; have x1 := blk_at XU.out (j := 1) rfl; have x2 := blk_at XU.out (j := 2) rfl; have x3 := blk_at XU.out (j := 3) rfl; have x4 := blk_at XU.out (j := 4) rfl; have x5 := blk_at XU.out (j := 5) rfl; have x6 := blk_at XU.out (j := 6) rfl; have x7 := blk_at XU.out (j := 7) rfl
            go_wp2_with fail
            refine (implAll ⟨code, unit, kind, lead, rule, size, safety, scrap⟩ _).mono ?_; rintro e V ⟨rfl, hbV⟩
            have BV := Lib.hid (below_app BU.out hbV (by have := BU.out.size; omega))
            have XV := Lib.hid (blk_keep hbV XU.out)
            have OV := Lib.hid (own_below OU hbV)
            have LV := Lib.hid (own_below LU' hbV)
            have GV := Lib.hid (grown_of_belowM (some w.heap.size) (Below.refl V.heap.size V))
            clear hbV XU BU OU LU' dl do_ x0 x1 x2 x3 x4 x5 x6 x7 n0 ne1
            go_wp2_with fail
            go_loopw [73] (fun i wz => ∃ (k : Nat) (o2 : List Int), k ≤ n ∧ i = .int .i64 k ∧ wz.ownsRow w.heap.size 3 1 (.slice (some ⟨w.heap.size, 0, none⟩) nc nc) nc (intCells o2) ∧ wz.ownsRow (w.heap.size + 1) 3 1 (.slice (some ⟨gl, 0, none⟩) nc d) nc (intCells L) ∧ V.grownBy wz (some w.heap.size) ∧ Hid (lvAt o2 j ≠ 0) ∧ Hid (PMid nc f (lvAt L) (byAt cat pc) (byAt cat Tc) (Tc s.code) (behind (lvAt L) q (j + 1)) j (lsum (lnPart Tc code) (act.drop k)) (lvAt o2))) (fun i _ => n - (intOf i).toNat)
            case atStart => exact ⟨0, o, Nat.zero_le _, rfl, OV.out, LV.out, GV.out, HN, PM⟩
            case round =>
              obtain ⟨k, o2, hk, rfl, ho, hlvl, hg, hnz, hpm⟩ := hrel
              clear OV LV GV HN PM
              have hbz := below_gr BV.out hg
              by_cases hkn : k < n
              · obtain ⟨ga, offa, rfl, ⟨par, part, qty, fr, un, cond⟩, eA, en, ec, hxl, c0, c1, c2, c3, c4, c5, -⟩ := (hr.below hbz).blAt hkn
                simp only at c0 c1 c2 c3 c4
                have hmem := List.mem_of_getElem? hxl
                have hqq := HQ.out _ hmem
                have hli := IN.out _ hmem
                have hlu := LU.out _ hmem
                have DR := Lib.hid (lsum_drop (f := lnPart Tc code) hxl)
                simp only at hqq hlu
                clear hxl hmem
                have k1 : (0 : Int) ≤ k := by omega
                have k2 : (k : Int) < n := by omega
                obtain ⟨U2, hU2⟩ : ∃ U2, U2 = wr.alloc (Obj.cells #[.string par, .string part, .int .i64 qty, .int .i64 fr, .int .i64 un, .slice eA en ec] 82) := ⟨_, rfl⟩
                have XL := Lib.hid (show U2.heap[wr.heap.size]? = some (Obj.cells #[.string par, .string part, .int .i64 qty, .int .i64 fr, .int .i64 un, .slice eA en ec] 82 (0, 0)) by rw [hU2]; exact blk_new1 _ _)
                have XI := Lib.hid (show U2.heap[xb]? = some (Obj.cells #[.string code, .string unit, .int .i64 kind, .int .i64 lead, .int .i64 rule, .int .i64 size, .int .i64 safety, .int .i64 scrap] 64 (0, 0)) by rw [hU2]; exact blk_alloc (blk_gr hg XV.out xg) _)
                have bx2 := below_box wr (Obj.cells #[.string par, .string part, .int .i64 qty, .int .i64 fr, .int .i64 un, .slice eA en ec] 82)
                have GU := Lib.hid (show V.grownBy U2 (some w.heap.size) by rw [hU2]; exact hg.trans (grown_of_belowM _ bx2))
                have OU := Lib.hid (show U2.ownsRow w.heap.size 3 1 (.slice (some ⟨w.heap.size, 0, none⟩) nc nc) nc (intCells o2) by rw [hU2]; exact own_below ho bx2)
                have LU2 := Lib.hid (show U2.ownsRow (w.heap.size + 1) 3 1 (.slice (some ⟨gl, 0, none⟩) nc d) nc (intCells L) by rw [hU2]; exact own_below hlvl bx2)
                have xlb : wr.heap.size ≠ w.heap.size := by have : w.heap.size < wr.heap.size := (ho.lt _ rfl).2; omega
                go_upto_region 14 with fail
                rw [← hU2]
                obtain ⟨xl, hxl⟩ : ∃ xl, xl = wr.heap.size := ⟨_, rfl⟩
                rw [← hxl] at XL xlb ⊢
                clear hxl hU2 c0 c1 c2 c3 c4 c5 bx2 ho hlvl hg hbz
                have y0 := blk_at XL.out (j := 0) rfl; have y1 := blk_at XL.out (j := 1) rfl; have y2 := blk_at XL.out (j := 2) rfl
                have x0 := blk_at XI.out (j := 0) rfl
                by_cases hp : par = code
                rotate_left
                · have ZR := Lib.hid (show lnPart Tc code ⟨par, part, qty, fr, un, cond⟩ = 0 by unfold lnPart; rw [if_neg hp])
                  have ne := text_ne hp
                  have nb : (par.toList == code.toList) = false := by simpa using ne
                  clear hp
                  go_wp2_with fail
                  go_roundw
                  case rel => exact ⟨k + 1, o2, by omega, by go_num, OU.out, LU2.out, GU.out, hnz, by have h := hpm.out; rw [DR.out, ZR.out, Int.zero_add] at h; exact h⟩
                  case measure => simp [intOf]; omega
                · subst hp
                  obtain ⟨p, hpp⟩ := Int.eq_ofNat_of_zero_le hli.2
                  simp only at hpp
                  have HP := Lib.hid hpp
                  have FI := implFind _ nc cc cat part U2 (hrc.below (below_gr BV.out GU.out)) (by omega)
                  rw [hpp] at FI
                  clear hpp
                  go_wp2_with fail
                  refine FI.mono ?_; rintro e w4 ⟨rfl, hb4⟩
                  have hp1 : p < nc := by have h := findAt_lt hli.2; simp only at h; rw [HP.out, hlc.out] at h; omega
                  have bo := hpm.out.bd p hp1
                  have bj := hpm.out.bd j hjn
                  have qb := qadd_bd bo.1 bo.2 bj.1 bj.2 hqq.1 hqq.2
                  have wk1 : IntKind.i64.wrap (lvAt o2 j * qty) = lvAt o2 j * qty := IntWalk.i64_in _ (by omega)
                  have wk2 : IntKind.i64.wrap (lvAt o2 p + lvAt o2 j * qty) = lvAt o2 p + lvAt o2 j * qty := IntWalk.i64_in _ (by omega)
                  have O4 := own_below OU.out hb4
                  have L4 := Lib.hid (own_below LU2.out hb4)
                  have G4 := Lib.hid (GU.out.trans (grown_of_belowM (some w.heap.size) hb4))
                  have X4 := Lib.hid (blk_keep hb4 XL.out)
                  have Y4 := Lib.hid (blk_keep hb4 XI.out)
                  clear x0 y0 y1 y2 OU LU2 GU XL XI hb4
                  have y2 := blk_at X4.out (j := 2) rfl
                  obtain ⟨_, e1, _, dj, _, _⟩ := int_own O4 hjn
                  obtain ⟨_, e2, _, dp, fp, SP⟩ := int_own O4 hp1
                  injection e1 with e1; injection e1 with e1
                  injection e2 with e2; injection e2 with e2
                  subst e1
                  subst e2
                  have p1 : (0 : Int) ≤ p := by omega
                  have p2 : (p : Int) < nc := by omega
                  go_wp2_with fail
                  go_region
                  obtain ⟨v, hv⟩ : ∃ v, v = lvAt o2 p + lvAt o2 j * qty := ⟨_, rfl⟩
                  have O5 : (w4.setCell ⟨w.heap.size, p, none⟩ (.int .i64 v)).drew.ownsRow w.heap.size 3 1 (.slice (some ⟨w.heap.size, 0, none⟩) nc nc) nc (intCells (o2.set p v)) := SP v
                  have L5 : (w4.setCell ⟨w.heap.size, p, none⟩ (.int .i64 v)).drew.ownsRow (w.heap.size + 1) 3 1 (.slice (some ⟨gl, 0, none⟩) nc d) nc (intCells L) := own_setlow (p := ⟨w.heap.size, p, none⟩) L4.out (Nat.lt_succ_self _) (.int .i64 v)
                  have G5 : V.grownBy (w4.setCell ⟨w.heap.size, p, none⟩ (.int .i64 v)).drew (some w.heap.size) := have h := G4.out.trans (grown_set w4 ⟨w.heap.size, p, none⟩ (.int .i64 v)); ⟨h.os, h.tape, h.output, h.size, h.block⟩
                  have F1 : (findAt cat par).toNat = j := by rw [find_self HC.out HX.out]; rfl
                  have F2 : (findAt cat part).toNat = p := by rw [HP.out]; rfl
                  rw [F1, F2] at hlu
                  have LO := own_ints O4
                  have AT := Lib.hid (fun i => lvAt_set (out := o2) (q := p) (v := v) (by rw [LO]; exact hp1) i)
                  have TP : byAt cat Tc p = Tc part := by
                    obtain ⟨k', x', e', hx', hc'⟩ := findAt_some hli.2
                    simp only at e' hc'
                    rw [HP.out] at e'
                    obtain rfl : p = k' := by omega
                    rw [byAt_of hx', hc']
                  have PN := Lib.hid (show v ≤ 1000000000 → PMid nc f (lvAt L) (byAt cat pc) (byAt cat Tc) (Tc s.code) (behind (lvAt L) q (j + 1)) j (lsum (lnPart Tc par) (act.drop (k + 1))) (lvAt (o2.set p v)) from fun hle => by
                    have h := hpm.out
                    rw [DR.out, lnPart, if_pos rfl] at h
                    simp only at h
                    rw [← TP] at h
                    exact h.line hjn hp1 HLE.out hlu (by omega) hnz.out (fun i => by rw [AT.out i, hv]) (by rw [← hv]; exact hle))
                  have NZ := Lib.hid (show lvAt (o2.set p v) j ≠ 0 by rw [AT.out j, if_neg (fun e => by rw [← e] at hlu; omega)]; exact hnz.out)
                  rw [← hv]
                  obtain ⟨V5, hV5⟩ : ∃ V5, V5 = (w4.setCell ⟨w.heap.size, p, none⟩ (.int .i64 v)).drew := ⟨_, rfl⟩
                  rw [← hV5] at O5 L5 G5 ⊢
                  have vb : 0 ≤ v ∧ v ≤ 1001000000000 := by rw [hv]; exact ⟨qb.2.2.1, qb.2.2.2⟩
                  clear hV5 hv SP dp fp dj O4 L4 G4 X4 Y4 y2 wk1 wk2 qb bo bj hlu TP LO F1 F2
                  obtain ⟨_, e2, _, dp, _, _⟩ := int_own O5 hp1
                  injection e2 with e2; injection e2 with e2
                  subst e2
                  have VP : lvAt (o2.set p v) p = v := by rw [AT.out p, if_pos rfl]
                  rw [VP] at dp
                  clear VP
                  have O6 := Lib.hid O5; have L6 := Lib.hid L5; have G6 := Lib.hid G5
                  clear O5 L5 G5
                  by_cases hgt : 1000000000 < v
                  · go_wp2_with fail
                    go_ret2
                    exact ⟨none, 0, 0, false, [], rfl, (fun h => by cases h), below_gr BV.out G6.out⟩
                  · go_wp2_with fail
                    go_roundw
                    case rel => exact ⟨k + 1, o2.set p v, by omega, by go_num, O6.out, L6.out, G6.out, NZ.out, PN.out (by omega)⟩
                    case measure => simp [intOf]; omega
              · obtain rfl : n = k := by omega
                have PD := hpm.out
                rw [lsum_done (by rw [hl.out]; exact Nat.le_refl _)] at PD
                have PE := Lib.hid PD.done
                clear PD
                go_wp2_with fail
                go_roundw
                case rel => exact ⟨j + 1, o2, by omega, by go_num, ho, hlvl, hbz, PE.out⟩
                case measure => simp [intOf]; omega
        · obtain rfl : nc = j := by omega
          have PR := Lib.hid hP.out.round
          go_wp2_with fail
          go_roundw
          case rel => exact ⟨q + 1, o, by omega, by go_num, ho, hlvl, hb, PR.out⟩
          case measure => simp [intOf]; omega
    · obtain rfl : q = nc + 1 := by omega
      obtain ⟨_, e1, _, dk, fk, SK⟩ := int_own ho hf
      injection e1 with e1; injection e1 with e1
      subst e1
      have LN := own_ints ho
      have PL := Lib.hid (hP.out.last (o' := lvAt (o.set f 0)) hf (fun j hj => (LB.out j hj).2) (fun j => lvAt_set (by rw [LN]; exact hf) j))
      have OE := Lib.hid (SK 0)
      have BE := Lib.hid (hb.setCell (p := ⟨w.heap.size, f, none⟩) (Nat.le_refl _) (.int .i64 0))
      clear SK LN
      go_wp2_with fail
      go_ret2
      exact ⟨some ⟨w.heap.size, 0, none⟩, nc, nc, true, o.set f 0, rfl, (fun _ => ⟨OE.out, rfl, PL.out.1, by have h := PL.out.2; rw [byAt_of HS.out] at h; exact h⟩), BE.out⟩
/-- The list of needs, item by item. -/
def ndsAt (cat : List It) (o : List Int) (k : Nat) : List Nd := match cat[k]? with | some x => if 0 < lvAt o k then [⟨x.code, lvAt o k⟩] else [] | none => []
def ndsOf (cat : List It) (o : List Int) : Nat → List Nd
  | 0 => []
  | k + 1 => ndsOf cat o k ++ ndsAt cat o k
theorem nds_yes {cat : List It} {o : List Int} {k : Nat} {x : It} (hx : cat[k]? = some x) (h : 0 < lvAt o k) : ndsOf cat o (k + 1) = ndsOf cat o k ++ [⟨x.code, lvAt o k⟩] := by simp [ndsOf, ndsAt, hx, h]
theorem nds_no {cat : List It} {o : List Int} {k : Nat} (h : ¬ 0 < lvAt o k) : ndsOf cat o (k + 1) = ndsOf cat o k := by
  simp only [ndsOf, ndsAt]
  cases cat[k]? <;> simp [h]
theorem nds_len (cat : List It) (o : List Int) : ∀ k, (ndsOf cat o k).length ≤ k
  | 0 => Nat.le_refl _
  | k + 1 => by
    have h := nds_len cat o k
    have : (ndsAt cat o k).length ≤ 1 := by
      unfold ndsAt
      split
      · split <;> simp
      · simp
    rw [ndsOf, List.length_append]; omega
theorem nds_pos (cat : List It) (o : List Int) (b : Int) : ∀ k, (∀ j, j < k → lvAt o j ≤ b) → ∀ x ∈ ndsOf cat o k, 0 ≤ x.qty ∧ x.qty ≤ b
  | 0, _, x, hx => by simp [ndsOf] at hx
  | k + 1, h, x, hx => by
    rw [ndsOf, List.mem_append] at hx
    rcases hx with hx | hx
    · exact nds_pos cat o b k (fun j hj => h j (by omega)) x hx
    · have hk := h k (by omega)
      unfold ndsAt at hx
      split at hx
      · split at hx
        · simp at hx; subst hx; simp only; omega
        · simp at hx
      · simp at hx
theorem nds_sum {cat : List It} {o : List Int} (pc : ByteArray → Int) : ∀ k, k ≤ cat.length → (∀ j, j < k → 0 ≤ lvAt o j) → nsum pc (ndsOf cat o k) = dot (lvAt o) (byAt cat pc) k
  | 0, _, _ => rfl
  | k + 1, hk, h => by
    have hkl : k < cat.length := by omega
    have hx : cat[k]? = some cat[k] := List.getElem?_eq_getElem hkl
    have ih := nds_sum (cat := cat) (o := o) pc k (by omega) fun j hj => h j (by omega)
    rw [dot, byAt_of hx]
    by_cases hp : 0 < lvAt o k
    · rw [nds_yes hx hp, nsum_app, ih]
      show _ + (lvAt o k * pc cat[k].code + 0) = _
      omega
    · rw [nds_no hp, ih]
      have := h k (by omega)
      have : lvAt o k = 0 := by omega
      rw [this]; simp
set_option maxRecDepth 100000 in
set_option maxHeartbeats 1000000 in
theorem implNeeds (Ac : Option Addr) (nc cc : Nat) (cat : List It) (B : Option Addr) (d : Nat) (o : List Int) (w : World) (hrc : RS w 8 Ac nc (cat.flatMap itCell)) (hnc : nc ≤ 12) (hro : RS w 1 B nc (intCells o)) :
    Calls Try.prog 61 #[.slice Ac nc cc, .slice B nc d, .func (.func 59) #[] #[]] w fun e w' => ∃ (A' : Option Addr) (q c' : Nat), e = .returned (.slice A' q c') ∧ w'.ownsRow w.heap.size 55 2 (.slice A' q c') q ((ndsOf cat o nc).flatMap ndCell) ∧ Below w.heap.size w w' := by
  have hlc := Lib.hid (hrc.flatLen itCell_len (by omega))
  obtain ⟨i0, hi, hz0, hz1, hz2⟩ := info_parts ndInfo
  have O0 := own_empty w w.heap.size 55 2 (Nat.le_refl _)
  have B0 := below_box w (Obj.cells #[] 55)
  go_enter Try.func61, Try.ntmps61
  go_wp2_with fail
  go_loopw [7, 13] (fun st i wr => ∃ (k : Nat) (A' : Option Addr) (q c' : Nat), k ≤ nc ∧ i = .int .i64 k ∧ st = .slice A' q c' ∧ q ≤ k ∧ wr.ownsRow w.heap.size 55 2 (.slice A' q c') q ((ndsOf cat o k).flatMap ndCell) ∧ Below w.heap.size w wr) (fun _ i _ => nc - (intOf i).toNat)
  case atStart => exact ⟨0, _, 0, 0, Nat.zero_le _, rfl, rfl, Nat.le_refl _, by simpa [ndsOf] using O0, B0⟩
  case round =>
    obtain ⟨k, A', q, c', hk, rfl, rfl, hqk, ho, hb⟩ := hrel
    clear O0 B0
    have hz := hb.size
    by_cases hlt : k < nc
    · obtain ⟨g, off, rfl, ⟨code, unit, kind, lead, rule, size, safety, scrap⟩, hx, c0, c1, c2, c3, c4, c5, c6, c7⟩ := (hrc.below hb).itAt hlt
      simp only at c0 c1 c2 c3 c4 c5 c6 c7
      obtain ⟨go, offo, rfl, v, hv, cv⟩ := hro.intAt hlt
      have VL := lvAt_of hv
      have gl : go < w.heap.size := World.block_lt_of_cell? w _ cv
      have HX := Lib.hid hx
      clear hx hv
      have k1 : (0 : Int) ≤ k := by omega
      have k2 : (k : Int) < nc := by omega
      have bx := below_box wr (Obj.cells #[.string code, .string unit, .int .i64 kind, .int .i64 lead, .int .i64 rule, .int .i64 size, .int .i64 safety, .int .i64 scrap] 64)
      obtain ⟨U, hU⟩ : ∃ U, U = wr.alloc (Obj.cells #[.string code, .string unit, .int .i64 kind, .int .i64 lead, .int .i64 rule, .int .i64 size, .int .i64 safety, .int .i64 scrap] 64) := ⟨_, rfl⟩
      have XU := Lib.hid (show U.heap[wr.heap.size]? = some (Obj.cells #[.string code, .string unit, .int .i64 kind, .int .i64 lead, .int .i64 rule, .int .i64 size, .int .i64 safety, .int .i64 scrap] 64 (0, 0)) by rw [hU]; exact blk_new1 _ _)
      have BU := Lib.hid (show Below w.heap.size w U by rw [hU]; exact below_app hb bx hz)
      have OU := Lib.hid (show U.ownsRow w.heap.size 55 2 (.slice A' q c') q ((ndsOf cat o k).flatMap ndCell) by rw [hU]; exact own_below ho bx)
      go_upto_region 5 with fail
      rw [← hU]
      obtain ⟨xb, hxb⟩ : ∃ xb, xb = wr.heap.size := ⟨_, rfl⟩
      have xg : (Value.slice A' q c').ownBlock ≠ some xb := fun he => by have := (ho.lt _ he).2; omega
      have ag : (Value.slice A' q c').ownBlock ≠ some go := fun he => by have := (ho.lt _ he).1; omega
      rw [← hxb] at XU ⊢
      have xu : xb < U.heap.size := (Array.getElem?_eq_some_iff.1 XU.out).1
      have dv := cell_keep BU.out cv
      clear hxb hU c0 c1 c2 c3 c4 c5 c6 c7 bx ho hb hz cv
      by_cases hp : 0 < v
      rotate_left
      · have NO := Lib.hid (nds_no (cat := cat) (o := o) (k := k) (by rw [VL]; exact hp))
        clear VL
        have x0 := blk_at XU.out (j := 0) rfl; have x1 := blk_at XU.out (j := 1) rfl; have x2 := blk_at XU.out (j := 2) rfl; have x3 := blk_at XU.out (j := 3) rfl; have x4 := blk_at XU.out (j := 4) rfl; have x5 := blk_at XU.out (j := 5) rfl; have x6 := blk_at XU.out (j := 6) rfl; have x7 := blk_at XU.out (j := 7) rfl
        go_wp2_with fail
        go_roundw
        case rel => exact ⟨k + 1, A', q, c', by omega, by go_num, rfl, by omega, by rw [NO.out]; exact OU.out, BU.out⟩
        case measure => simp [intOf]; omega
      · have YES := Lib.hid (nds_yes HX.out (by rw [VL]; exact hp))
        rw [VL] at YES
        simp only at YES
        clear VL
        have x0 := blk_at XU.out (j := 0) rfl; have x1 := blk_at XU.out (j := 1) rfl; have x2 := blk_at XU.out (j := 2) rfl; have x3 := blk_at XU.out (j := 3) rfl; have x4 := blk_at XU.out (j := 4) rfl; have x5 := blk_at XU.out (j := 5) rfl; have x6 := blk_at XU.out (j := 6) rfl; have x7 := blk_at XU.out (j := 7) rfl
        go_wp2_with fail
        refine (implAll ⟨code, unit, kind, lead, rule, size, safety, scrap⟩ _).mono ?_; rintro e V ⟨rfl, hbV⟩
        have XV := Lib.hid (blk_keep hbV XU.out)
        have BV := Lib.hid (below_app BU.out hbV BU.out.size)
        have OV := Lib.hid (own_below OU.out hbV)
        have dv := cell_keep hbV dv
        have y0 := blk_at XV.out (j := 0) rfl
        have xv : xb < V.heap.size := (Array.getElem?_eq_some_iff.1 XV.out).1
        have gv : go < V.heap.size := World.block_lt_of_cell? V _ dv
        have zb := BV.out.size
        have ho := OV.out
        clear x0 x1 x2 x3 x4 x5 x6 x7 hbV XU BU OU xu
        go_wp2_with fail
        go_region_held3 (fun w' => w'.cell? ⟨xb, 0, none⟩ = some (.string code) ∧ w'.cell? ⟨go, offo + k, none⟩ = some (.int .i64 v))
          (first
            | go_keep
            | (go_split_ands
               refine ⟨?_, ?_⟩
               · (rw [hgrow.cell_far _ (by simp; omega) (Ne.symm xg)]; assumption)
               · (rw [hgrow.cell_far _ (by simp; omega) (Ne.symm ag)]; assumption)))
          ((refine step_append_lies _ (by rfl) _ _ _ (by rfl) w.heap.size 55 i0 _ 2 24 Try.underlying29 hi hz0 hz1 hz2 rfl (by omega) (.slice A' q c') q ((ndsOf cat o k).flatMap ndCell) (by rfl) ((ho.alloc _).drew)
              ⟨V.heap.size, 0, none⟩ 1 1 [.string code, .int .i64 v] (by rfl) (by rfl) (World.news_of_block (cs := #[.string code, .int .i64 v]) (t := 55) (fr := (0, 0)) (heap_alloc_new V _)) (by simp [Value.oneCell'])
              (by omega) (by unfold maxLen; omega) (by omega) (by simp; omega) (V.heap.size + 1) (by simp) ?_; intro gg cap w6 os6 hgrow hat hlt'))
        have b6 : Below w.heap.size w w6 := ((BV.out.alloc BV.out.size (Obj.cells #[.string code, .int .i64 v] 55)).drew).trans (below_of_grown ((ho.alloc (Obj.cells #[.string code, .int .i64 v] 55)).drew) hgrow (Nat.le_refl _) (by simp; omega))
        have os7 : w6.ownsRow w.heap.size 55 2 (.slice (some ⟨gg, 0, none⟩) (q + 1) cap) (q + 1) ((ndsOf cat o (k + 1)).flatMap ndCell) := by
          rw [YES.out, flat_append, flat_one]; exact os6
        clear os6 hgrow hat
        go_wp2_with fail
        go_roundw
        case rel => exact ⟨k + 1, some ⟨gg, 0, none⟩, q + 1, cap, by omega, by go_num, rfl, by omega, os7, b6⟩
        case measure => simp [intOf]; omega
    · obtain rfl : nc = k := by omega
      go_wp2_with fail
      go_ret
      exact ⟨_, _, _, rfl, ho, hb⟩
end Go.Proofs.Ytnhkpdaogclfjaa
