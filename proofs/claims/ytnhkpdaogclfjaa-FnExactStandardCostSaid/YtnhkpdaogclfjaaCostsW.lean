/- Costs rolled up: the walk of the program's costs, which calls itself. No condition. -/
import Derived.Test.YtnhkpdaogclfjaaCostS
namespace Go.Proofs.Ytnhkpdaogclfjaa
open Go.ChangeShapes Go.WideShapes Go.ChangeAt Go.RowKit Go.Maps Go.ChangeMaps Go.WideMaps

theorem strLaw : Keyed Try.prog 9 := string_keyed Try.underlying9
theorem zeroInt (w : World) : (zeroValue 3).run Try.prog w = .ok (.int .i64 0) w := by kernel_rfl
theorem grown_of_belowM {w w' : World} (row : Option Nat) (h : Below w.heap.size w w') : w.grownBy w' row := ⟨h.os, h.tape, h.output, h.size, fun j hj _ => h.block j hj⟩
theorem map_below {w w' : World} {k : TypeId} {R : Value → Option (DataW Unit × List MemPlace)} {b n : Nat} {D : DataW Unit} (h : w.ownsMap Try.prog k R b n D) (hb : Below w.heap.size w w') : w'.ownsMap Try.prog k R b n D := h.kept (grown_of_belowM none hb) (by simp)
abbrev ownsCosts (w : World) (b n : Nat) (D : DataW Unit) : Prop := w.ownsMap Try.prog 9 (plainElem Try.prog 3) b n D
/-- What a call of costs leaves. -/
def CostEnd (W0 w : World) (f : ByteArray → Int) (top : Nat) (s : ByteArray) (e : Ending) (w' : World) : Prop :=
  e = .returned (.int .i64 (f s)) ∧ w.grownBy w' (some W0.heap.size) ∧ ∃ (D' : DataW Unit) (k' : Nat), ownsCosts w' W0.heap.size k' D' ∧ Known D' f ∧ k' ≤ top
theorem blk_gr {w w' : World} {g x : Nat} {o : Obj} (hg : w.grownBy w' (some g)) (h : w.heap[x]? = some o) (hne : x ≠ g) : w'.heap[x]? = some o :=
  (hg.block x (Array.getElem?_eq_some_iff.1 h).1 (by simpa using hne)).trans h
theorem below_gr {w w' W0 : World} (hb : Below W0.heap.size W0 w) (hg : w.grownBy w' (some W0.heap.size)) : Below W0.heap.size W0 w' := hb.grown hg hb.size fun k hk => by injection hk with hk; omega
theorem cAdd_yes {t v q : Int} (h : v < 0 ∨ 1000000000 < t + q * v) : cAdd t v q = -1 := by unfold cAdd; rw [if_pos h]
theorem cAdd_no {t v q : Int} (h1 : ¬ v < 0) (h2 : ¬ 1000000000 < t + q * v) : cAdd t v q = t + q * v := by unfold cAdd; rw [if_neg (by omega)]
theorem mul_bd {q v : Int} (h1 : 1 ≤ q) (h2 : q ≤ 1000) (h3 : -1 ≤ v) (h4 : v ≤ 1000000000) : -1000 ≤ q * v ∧ q * v ≤ 1000000000000 := by
  rcases Int.lt_or_le v 0 with h | h
  · have : v = -1 := by omega
    subst this; omega
  · have a := Int.mul_nonneg (show 0 ≤ q by omega) h
    have b := Int.mul_le_mul h2 h4 h (show (0 : Int) ≤ 1000 by omega)
    omega
set_option maxRecDepth 100000 in
set_option maxHeartbeats 8000000 in
theorem implCosts (W0 : World) (A : Option Addr) (n c : Nat) (act : List Bl) (B : Option Addr) (m b : Nat) (prices : List Nd) (L : ByteArray → Int) (N : Nat)
    (hr : BillsR W0 A n act) (hn : n ≤ 24) (hp : RS W0 2 B m (prices.flatMap ndCell)) (hm : m ≤ 9223372036854775807) (hR : Rises act L N) (h8 : ∀ x ∈ act, x.part.size ≤ 8) :
    ∀ (d : Nat) (s : ByteArray) (w : World) (D : DataW Unit) (k : Nat), (N : Int) ≤ L s + d → 0 ≤ L s → L s < N → s.size ≤ 8 → k + puts d ≤ 4611686018427387904 → Below W0.heap.size W0 w → W0.heap.size < w.heap.size → ownsCosts w W0.heap.size k D → Known D (costS act (priceIn prices) N) →
      Calls Try.prog 50 #[.slice A n c, .slice B m b, .string s, .map (some W0.heap.size)] w (CostEnd W0 w (costS act (priceIn prices) N) (k + puts d) s) := by
  have hl := Lib.hid hr.len
  obtain ⟨f, hf⟩ : ∃ f, f = costS act (priceIn prices) N := ⟨_, rfl⟩
  have FOK := Lib.hid (show ∀ s, cOk (f s) by rw [hf]; exact costS_ok act _ (price_ok prices) N)
  have FALL := Lib.hid (show ∀ s, 0 ≤ L s → L s < N → f s = act.foldl (csStep f s) (priceIn prices s) by rw [hf]; exact fun s h0 h1 => costS_all hR s h0 h1)
  rw [← hf]
  clear hf
  intro d
  induction d with
  | zero => intro s w D k h1 h2 h3; omega
  | succ d ih =>
    intro s w D k hd h0 h1 hs hk hb hz hown hkn
    have hkey : keyOf Try.prog 9 (.string s) = some (keyS s) := keyOf_string_mk Try.underlying9 (by unfold maxLen; omega)
    have HD := Lib.hid hd
    have PD : puts (d + 1) = 24 * puts d + 1 := rfl
    cases hh : Maps.has D (keyS s)
    rotate_left
    · have AT := Lib.hid (hkn.at_ s hh)
      have HH := Lib.hid hh
      clear hh
      go_enter Try.func50, Try.ntmps50
      go_wp2_with (at_lookup; refine wpList_lookup_own_ok_int _ rfl _ _ 90 rfl 9 3 .i64 strLaw Try.underlying90 Try.underlying3 (zeroInt _) W0.heap.size k D rfl hown _ _ rfl hkey ?_; intro c1 hat1 hwc1; rw [HH.out]; rw [AT.out] at hat1; injection hat1 with hat1; injection hat1 with _ hat1; subst hat1; clear hwc1)
      go_ret
      exact ⟨rfl, grown_of_belowM _ (Below.refl _ _), D, k, hown, hkn, by omega⟩
    · have HH := Lib.hid hh
      clear hh
      have HK := Lib.hid hkn; clear hkn
      have PB := price_ok prices s
      go_enter Try.func50, Try.ntmps50
      go_wp2_with (at_lookup; refine wpList_lookup_own_ok_int _ rfl _ _ 90 rfl 9 3 .i64 strLaw Try.underlying90 Try.underlying3 (zeroInt _) W0.heap.size k D rfl hown _ _ rfl hkey ?_; intro c1 hat1 hwc1; rw [HH.out]; clear hat1 hwc1)
      refine (implPriceIn B m b prices s w (hp.below hb) hm).mono ?_; rintro e w1 ⟨rfl, h1b⟩
      have M1 := map_below hown h1b
      have G1 := grown_of_belowM (some W0.heap.size) h1b
      clear hown h1b
      go_wp2_with fail
      go_loopw [11, 28] (fun sm i wz => ∃ (j : Nat) (D2 : DataW Unit) (k2 : Nat), j ≤ n ∧ i = .int .i64 j ∧ sm = .int .i64 ((act.take j).foldl (csStep f s) (priceIn prices s)) ∧ w.grownBy wz (some W0.heap.size) ∧ ownsCosts wz W0.heap.size k2 D2 ∧ Hid (Known D2 f) ∧ k2 ≤ k + j * puts d) (fun _ i _ => n - (intOf i).toNat)
      case atStart => exact ⟨0, D, k, Nat.zero_le _, rfl, rfl, G1, M1, HK, by omega⟩
      case round =>
        obtain ⟨j, D2, k2, hj, rfl, rfl, hg, hown, hkn, hk2⟩ := hrel
        clear M1 G1
        obtain ⟨t, ht⟩ : ∃ t, t = (act.take j).foldl (csStep f s) (priceIn prices s) := ⟨_, rfl⟩
        have TOK : cOk t := by rw [ht]; exact csFold_ok _ _ PB
        have tb := TOK
        unfold cOk at tb
        have HT := Lib.hid ht
        have hbz := below_gr hb hg
        have hzz := hg.size
        by_cases hlt : j < n
        · obtain ⟨g, off, rfl, ⟨par, part, qty, fr, un, cond⟩, eA, en, ec, hx, c0, c1, c2, c3, c4, c5, -⟩ := (hr.below hbz).blAt hlt
          simp only at c0 c1 c2 c3 c4
          have FT := Lib.hid (csFold_take (f := f) (s := s) (t := priceIn prices s) hx)
          have hri := hR _ (List.mem_of_getElem? hx)
          have p8 := h8 _ (List.mem_of_getElem? hx)
          simp only at hri p8
          rw [← ht] at FT ⊢
          clear ht hx
          have i1 : (0 : Int) ≤ j := by omega
          have i2 : (j : Int) < n := by omega
          have bx := below_box wr (Obj.cells #[.string par, .string part, .int .i64 qty, .int .i64 fr, .int .i64 un, .slice eA en ec] 82)
          obtain ⟨U, hU⟩ : ∃ U, U = wr.alloc (Obj.cells #[.string par, .string part, .int .i64 qty, .int .i64 fr, .int .i64 un, .slice eA en ec] 82) := ⟨_, rfl⟩
          have XU := Lib.hid (show U.heap[wr.heap.size]? = some (Obj.cells #[.string par, .string part, .int .i64 qty, .int .i64 fr, .int .i64 un, .slice eA en ec] 82 (0, 0)) by rw [hU]; exact blk_new1 _ _)
          have GU := Lib.hid (show w.grownBy U (some W0.heap.size) by rw [hU]; exact hg.trans (grown_of_belowM _ bx))
          have MU := Lib.hid (show ownsCosts U W0.heap.size k2 D2 by rw [hU]; exact map_below hown bx)
          have BU := Lib.hid (below_gr hb GU.out)
          have zU : W0.heap.size < U.heap.size := Nat.lt_of_lt_of_le hz GU.out.size
          have mj : (j + 1) * puts d ≤ 24 * puts d := Nat.mul_le_mul_right _ (by omega)
          rw [Nat.add_mul, Nat.one_mul] at mj
          go_upto_region 8 with fail
          rw [← hU]
          obtain ⟨xb, hxb⟩ : ∃ xb, xb = wr.heap.size := ⟨_, rfl⟩
          have xg : xb ≠ W0.heap.size := by omega
          rw [← hxb] at XU ⊢
          clear hxb hU c0 c1 c2 c3 c4 c5 bx hown hg hbz hzz
          have x0 := blk_at XU.out (j := 0) rfl; have x1 := blk_at XU.out (j := 1) rfl; have x2 := blk_at XU.out (j := 2) rfl
          by_cases hp1 : par = s
          rotate_left
          · have HFS := Lib.hid (FT.out.trans (csStep_other (f := f) (x := ⟨par, part, qty, fr, un, cond⟩) hp1))
            have ne := text_ne hp1
            have nb : (par.toList == s.toList) = false := by simpa using ne
            clear hp1
            go_wp2_with fail
            go_roundw
            case rel => exact ⟨j + 1, D2, k2, by omega, by go_num, by rw [HFS.out], GU.out, MU.out, hkn, by rw [Nat.add_mul]; omega⟩
            case measure => simp [intOf]; omega
          subst hp1
          by_cases ht0 : t < 0
          · have HFS := Lib.hid (FT.out.trans (csStep_neg (f := f) (x := ⟨par, part, qty, fr, un, cond⟩) TOK ht0))
            go_wp2_with fail
            go_roundw
            case rel => exact ⟨j + 1, D2, k2, by omega, by go_num, by rw [HFS.out], GU.out, MU.out, hkn, by rw [Nat.add_mul]; omega⟩
            case measure => simp [intOf]; omega
          have HFS := Lib.hid (FT.out.trans (csStep_add (f := f) (x := ⟨par, part, qty, fr, un, cond⟩) TOK ht0 rfl (by simp only; omega)))
          simp only at HFS
          have CL := ih part U D2 k2 (by have := HD.out; omega) hri.1 hri.2.1 p8 (by omega) BU.out zU MU.out hkn.out
          have vb := FOK.out part
          obtain ⟨v, hv⟩ : ∃ v, v = f part := ⟨_, rfl⟩
          unfold CostEnd at CL
          rw [← hv] at CL vb HFS
          unfold cOk at vb
          clear hv
          go_wp2_with fail
          refine CL.mono ?_; rintro e w2 ⟨rfl, g2, D3, k3, m3, kn3, hk3⟩
          have X2 := Lib.hid (blk_gr g2 XU.out xg)
          have G2 := Lib.hid (GU.out.trans g2)
          have M3 := Lib.hid m3; have K3 := Lib.hid kn3
          have qb := mul_bd hri.2.2.2.1 hri.2.2.2.2 vb.1 vb.2
          have wk1 : IntKind.i64.wrap (qty * v) = qty * v := IntWalk.i64_in _ (by omega)
          have wk2 : IntKind.i64.wrap (t + qty * v) = t + qty * v := IntWalk.i64_in _ (by omega)
          clear CL g2 m3 kn3 x0 x1 x2 XU MU GU BU
          have x2 := blk_at X2.out (j := 2) rfl
          by_cases hv0 : v < 0
          · have FV := Lib.hid (HFS.out.trans (cAdd_yes (.inl hv0)))
            go_wp2_with fail
            go_roundw
            case rel => exact ⟨j + 1, D3, k3, by omega, by go_num, by rw [FV.out], G2.out, M3.out, K3, by rw [Nat.add_mul]; omega⟩
            case measure => simp [intOf]; omega
          by_cases hv1 : 1000000000 < t + qty * v
          · have FV := Lib.hid (HFS.out.trans (cAdd_yes (.inr hv1)))
            go_wp2_with fail
            go_roundw
            case rel => exact ⟨j + 1, D3, k3, by omega, by go_num, by rw [FV.out], G2.out, M3.out, K3, by rw [Nat.add_mul]; omega⟩
            case measure => simp [intOf]; omega
          · have FV := Lib.hid (HFS.out.trans (cAdd_no hv0 hv1))
            go_wp2_with fail
            go_roundw
            case rel => exact ⟨j + 1, D3, k3, by omega, by go_num, by rw [FV.out], G2.out, M3.out, K3, by rw [Nat.add_mul]; omega⟩
            case measure => simp [intOf]; omega
        · obtain rfl : n = j := by omega
          have TA : act.take n = act := List.take_of_length_le (by rw [hl.out]; exact Nat.le_refl _)
          rw [TA, ← FALL.out s h0 h1] at ht
          have VB := FOK.out s
          unfold cOk at VB
          have KP := Lib.hid (known_put hkn.out s)
          rw [← ht] at KP VB
          rw [TA, ← FALL.out s h0 h1, ← ht]
          have mj : n * puts d ≤ 24 * puts d := Nat.mul_le_mul_right _ (by omega)
          have HT2 := Lib.hid ht
          have G3 := Lib.hid hg
          clear ht HT TA hg
          go_wp2_with (at_mapUpdate; refine wpList_mapUpdate_own _ rfl _ _ _ 90 rfl 9 3 strLaw Try.underlying90 _ W0.heap.size k2 D2 rfl hown (by unfold maxLen; omega) _ _ _ rfl rfl hkey _ [] (plainElem_int Try.underlying3 (WalkArith.wf_i64 (by omega))) ?_; intro w3 om3 g3)
          go_ret
          exact ⟨by rw [HT2.out]; rfl, G3.out.trans g3, _, k2 + 1, om3, KP.out, by omega⟩
end Go.Proofs.Ytnhkpdaogclfjaa
