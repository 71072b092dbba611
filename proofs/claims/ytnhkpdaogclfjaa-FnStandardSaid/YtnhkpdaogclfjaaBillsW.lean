/- Bills: the walks of IsBills. No condition. -/
import Derived.Test.YtnhkpdaogclfjaaLevW
import Derived.Test.YtnhkpdaogclfjaaCondW
namespace Go.Proofs.Ytnhkpdaogclfjaa
open Go.ChangeShapes Go.WideShapes Go.ChangeAt Go.RowKit

theorem isBills_bad {cat : List It} {l : List Bl} {k : Nat} {x : Bl} (hx : l[k]? = some x) (h : lineOk cat x = false) : isBills cat l = false := by
  have : l.all (lineOk cat) = false := by rw [List.all_eq_false]; exact ⟨x, List.mem_of_getElem? hx, by simp [h]⟩
  simp [isBills, this]
theorem isBills_good {cat : List It} {l : List Bl} (h1 : isCat cat = true) (h2 : l.length ≤ 24) (h3 : ∀ (j : Nat) (x : Bl), l[j]? = some x → lineOk cat x = true) : isBills cat l = lvOk cat l := by
  have : l.all (lineOk cat) = true := by
    rw [List.all_eq_true]; intro x hx
    obtain ⟨j, hj, rfl⟩ := List.getElem_of_mem hx
    exact h3 j _ (List.getElem?_eq_getElem hj)
  simp [isBills, this, h1, h2]
theorem lvOk_nil {cat : List It} {l : List Bl} (h : lvOk cat l = false) : 0 < cat.length := by
  rcases Nat.eq_zero_or_pos cat.length with h0 | h0
  · have h1 : (lvRound (egs cat l) (lvIter (egs cat l) cat.length cat.length)).length = 0 := by rw [lvRound_len, lvIter_len, h0]
    have h2 : (lvIter (egs cat l) cat.length cat.length).length = 0 := by rw [lvIter_len, h0]
    have : lvOk cat l = true := by
      rw [lvOk, lvFix, decide_eq_true_eq, List.length_eq_zero_iff.1 h1, List.length_eq_zero_iff.1 h2]
    rw [this] at h; cases h
  · exact h0
theorem kindAt_at {cat : List It} {s : ByteArray} {k : Nat} {x : It} (h : findAt cat s = k) (hx : cat[k]? = some x) : kindAt cat s = x.kind := by
  simp [kindAt, h, hx]
set_option maxRecDepth 100000 in
set_option maxHeartbeats 8000000 in
theorem implIsBills (Ac : Option Addr) (nc cc : Nat) (cat : List It) (A : Option Addr) (n c : Nat) (l : List Bl) (w : World) (hrc : RS w 8 Ac nc (cat.flatMap itCell)) (hnc : nc ≤ 9223372036854775807) (hokc : ∀ x ∈ cat, itOk x) (hr : BillsR w A n l) (hn : n ≤ 9223372036854775807) (hok : ∀ x ∈ l, billOk x) :
    Calls Try.prog 49 #[.slice Ac nc cc, .slice A n c] w fun e w' => e = .returned (.bool (isBills cat l)) ∧ Below w.heap.size w w' := by
  have hlc := Lib.hid (hrc.flatLen itCell_len (by omega))
  have hl := Lib.hid hr.len
  have OK := Lib.hid hok; have OKC := Lib.hid hokc
  clear hok hokc
  cases hcat : isCat cat
  · have E0 := Lib.hid (show isBills cat l = false by simp [isBills, hcat])
    go_enter Try.func49, Try.ntmps49
    go_wp2_with fail
    refine (implIsCatalog _ _ _ cat _ hrc hnc OKC.out).mono ?_; rw [hcat]; rintro e w1 ⟨rfl, hb1⟩
    go_wp2_with fail
    go_ret
    exact ⟨ret_bool E0.out.symm, hb1⟩
  have HC := Lib.hid hcat
  have nc12 : nc ≤ 12 := by rw [← hlc.out]; exact isCat_len hcat
  clear hcat
  by_cases hbig : 24 < n
  · have E0 := Lib.hid (show isBills cat l = false by
      have : decide (l.length ≤ 24) = false := by rw [hl.out]; simp; omega
      simp [isBills, this])
    have gd : (24 : Int) < n := by omega
    go_enter Try.func49, Try.ntmps49
    go_wp2_with fail
    refine (implIsCatalog _ _ _ cat _ hrc hnc OKC.out).mono ?_; rw [HC.out]; rintro e w1 ⟨rfl, hb1⟩
    go_wp2_with fail
    go_ret
    exact ⟨ret_bool E0.out.symm, hb1⟩
  have n24 : n ≤ 24 := by omega
  have gd : ¬ (24 : Int) < n := by omega
  clear hbig hn
  go_enter Try.func49, Try.ntmps49
  go_wp2_with fail
  refine (implIsCatalog _ _ _ cat _ hrc hnc OKC.out).mono ?_; rw [HC.out]; rintro e w1 ⟨rfl, hb1⟩
  go_wp2_with fail
  clear gd
  go_loopw [21] (fun i wr => ∃ k : Nat, k ≤ n ∧ i = .int .i64 k ∧ Below w.heap.size w wr ∧ Hid (∀ (j : Nat) (x : Bl), j < k → l[j]? = some x → lineOk cat x = true)) (fun i _ => n - (intOf i).toNat)
  case atStart => exact ⟨0, Nat.zero_le _, rfl, hb1, fun j x h => absurd h (Nat.not_lt_zero _)⟩
  case round =>
    obtain ⟨k, hk, rfl, hb, hgood⟩ := hrel
    clear hb1
    have hz := hb.size
    by_cases hlt : k < n
    · obtain ⟨g, off, rfl, ⟨par, part, qty, fr, un, cond⟩, eA, en, ec, hx, c0, c1, c2, c3, c4, c5, hre⟩ := (hr.below hb).blAt hlt
      simp only at c0 c1 c2 c3 c4 hre
      have hok := OK.out _ (List.mem_of_getElem? hx)
      have cl := hre.flatLen cnCell_len (by omega)
      have en64 : en ≤ 9223372036854775807 := by have := hok.2.2.2.2.2.1; simp only at this; omega
      have COK := Lib.hid (show ∀ y ∈ cond, cnOk y from hok.2.2.2.2.2.2)
      have HX := Lib.hid hx
      clear hx hok cl
      have i1 : (0 : Int) ≤ k := by omega
      have i2 : (k : Int) < n := by omega
      have step : lineOk cat ⟨par, part, qty, fr, un, cond⟩ = true → ∀ (j : Nat) (y : Bl), j < k + 1 → l[j]? = some y → lineOk cat y = true := fun h j y hj hy => by
        rcases Nat.lt_succ_iff_lt_or_eq.1 hj with h' | rfl
        · exact hgood.out j y h' hy
        · rw [HX.out] at hy; injection hy with hy; rw [← hy]; exact h
      have ST := Lib.hid step; clear step
      obtain ⟨v1, hv1⟩ : ∃ v, v = findAt cat par := ⟨_, rfl⟩
      obtain ⟨v2, hv2⟩ : ∃ v, v = findAt cat part := ⟨_, rfl⟩
      have HP := Lib.hid hv1.symm; have HQ := Lib.hid hv2.symm
      clear hv1 hv2
      obtain ⟨U, hU⟩ : ∃ U, U = wr.alloc (Obj.cells #[.string par, .string part, .int .i64 qty, .int .i64 fr, .int .i64 un, .slice eA en ec] 82) := ⟨_, rfl⟩
      have XU := Lib.hid (show U.heap[wr.heap.size]? = some (Obj.cells #[.string par, .string part, .int .i64 qty, .int .i64 fr, .int .i64 un, .slice eA en ec] 82 (0, 0)) by rw [hU]; exact blk_new1 _ _)
      have BU := Lib.hid (show Below w.heap.size w U by rw [hU]; exact hb.alloc hz _)
      have RU := Lib.hid (show RS U 3 eA en (cond.flatMap cnCell) by rw [hU]; exact hre.alloc _)
      clear hb hre
      go_upto_region 6 with fail
      rw [← hU]
      obtain ⟨xb, hxb⟩ : ∃ xb, xb = wr.heap.size := ⟨_, rfl⟩
      rw [← hxb] at XU ⊢
      clear hxb
      clear hU c0 c1 c2 c3 c4 c5
      have HF := Lib.hid (fun (X : WX) (s : ByteArray) (v : Int) (hv : findAt cat s = v) => (show Calls Try.prog 35 #[.slice Ac nc cc, .string s] (wext U X) fun e w' => e = .returned (.int .i64 v) ∧ ∃ y, w' = wext U y by
        have := implFind Ac nc cc cat s (wext U X) ((hrc.below BU.out).below (below_wext _ _)) (by omega)
        rw [hv] at this
        exact ext_call this))
      have x0 := cell_wext (blk_at XU.out (j := 0) rfl); have x1 := cell_wext (blk_at XU.out (j := 1) rfl)
      refine wp_region_ext (by kernel_rfl) (by kernel_rfl) ?_
      repeat (go_big_quiet_step ((go_at_call 35; exact HF.out _ _ _ (by first | exact HP.out | exact HQ.out))))
      refine wpQuiet_nil ?_
      intro _ hw'; obtain ⟨ny, hw''⟩ := hw'; subst hw''
      have bV := below_wext U ny
      obtain ⟨V, hV⟩ : ∃ V, V = wext U ny := ⟨_, rfl⟩
      rw [← hV] at bV ⊢
      clear hV HF x0 x1
      have BV := Lib.hid (below_app BU.out bV BU.out.size)
      have RV := RU.out.below bV
      have XV := Lib.hid (blk_keep bV XU.out)
      have x2 := blk_at XV.out (j := 2) rfl; have x3 := blk_at XV.out (j := 3) rfl; have x4 := blk_at XV.out (j := 4) rfl; have x5 := blk_at XV.out (j := 5) rfl
      clear bV BU RU XU
      by_cases q1 : v1 < 0
      · have g1 : ¬ (0 : Int) ≤ findAt cat par := by rw [HP.out]; omega
        have BAD := Lib.hid (isBills_bad HX.out (show lineOk cat ⟨par, part, qty, fr, un, cond⟩ = false by simp [lineOk, g1]))
        go_wp2_with (first | (go_at_call 36; refine (impl_in _ _ _ _).mono ?_; rintro e w' ⟨rfl, rfl⟩))
        go_ret
        exact ⟨ret_bool BAD.out.symm, BV.out⟩
      have g1 : (0 : Int) ≤ findAt cat par := by rw [HP.out]; omega
      by_cases q2 : v2 < 0
      · have g2 : ¬ (0 : Int) ≤ findAt cat part := by rw [HQ.out]; omega
        have BAD := Lib.hid (isBills_bad HX.out (show lineOk cat ⟨par, part, qty, fr, un, cond⟩ = false by simp [lineOk, g2]))
        go_wp2_with (first | (go_at_call 36; refine (impl_in _ _ _ _).mono ?_; rintro e w' ⟨rfl, rfl⟩))
        go_ret
        exact ⟨ret_bool BAD.out.symm, BV.out⟩
      have g2 : (0 : Int) ≤ findAt cat part := by rw [HQ.out]; omega
      obtain ⟨p, ⟨code, unit, kind, lead, rule, size, safety, scrap⟩, hp, hxc, -⟩ := findAt_some g1
      have KA := Lib.hid (kindAt_at hp hxc)
      rw [HP.out] at hp
      obtain rfl : v1 = (p : Int) := hp
      have pn : p < nc := by have := (List.getElem?_eq_some_iff.1 hxc).1; rw [hlc.out] at this; exact this
      obtain ⟨gc, offc, rfl, y, hy, -, -, d2, -, -, -, -, -⟩ := (hrc.below BV.out).itAt pn
      rw [hxc] at hy
      injection hy with hy
      subst hy
      simp only at d2 KA
      have p0 : (0 : Int) ≤ p := by omega
      have p1 : (p : Int) < nc := by omega
      have G1 := Lib.hid g1; have G2 := Lib.hid g2
      clear hxc g1 g2
      by_cases q3 : kind = 0
      · subst q3
        have BAD := Lib.hid (isBills_bad HX.out (show lineOk cat ⟨par, part, qty, fr, un, cond⟩ = false by simp [lineOk, KA.out]))
        go_wp2_with (first | (go_at_call 36; refine (impl_in _ _ _ _).mono ?_; rintro e w' ⟨rfl, rfl⟩))
        go_ret
        exact ⟨ret_bool BAD.out.symm, BV.out⟩
      have n3 : (kind == 0) = false := by simpa using q3
      cases q4 : inB qty 1 1000
      · have BAD := Lib.hid (isBills_bad HX.out (show lineOk cat ⟨par, part, qty, fr, un, cond⟩ = false by simp [lineOk, q4]))
        go_wp2_with (first | (go_at_call 36; refine (impl_in _ _ _ _).mono ?_; rintro e w' ⟨rfl, rfl⟩))
        go_ret
        exact ⟨ret_bool BAD.out.symm, BV.out⟩
      cases q5 : inB fr 0 999
      · have BAD := Lib.hid (isBills_bad HX.out (show lineOk cat ⟨par, part, qty, fr, un, cond⟩ = false by simp [lineOk, q5]))
        go_wp2_with (first | (go_at_call 36; refine (impl_in _ _ _ _).mono ?_; rintro e w' ⟨rfl, rfl⟩))
        go_ret
        exact ⟨ret_bool BAD.out.symm, BV.out⟩
      cases q6 : inB un fr 999
      · have BAD := Lib.hid (isBills_bad HX.out (show lineOk cat ⟨par, part, qty, fr, un, cond⟩ = false by simp [lineOk, q6]))
        go_wp2_with (first | (go_at_call 36; refine (impl_in _ _ _ _).mono ?_; rintro e w' ⟨rfl, rfl⟩))
        go_ret
        exact ⟨ret_bool BAD.out.symm, BV.out⟩
      cases q7 : isCond cond
      · have BAD := Lib.hid (isBills_bad HX.out (show lineOk cat ⟨par, part, qty, fr, un, cond⟩ = false by simp [lineOk, q7]))
        go_wp2_with (first | (go_at_call 36; refine (impl_in _ _ _ _).mono ?_; rintro e w' ⟨rfl, rfl⟩) | (go_at_call 68; refine (implIsCond _ _ _ cond _ RV en64 COK.out).mono ?_; rw [q7]; rintro e w' ⟨rfl, hb7⟩))
        go_ret
        exact ⟨ret_bool BAD.out.symm, below_app BV.out hb7 BV.out.size⟩
      have GOOD := Lib.hid (show lineOk cat ⟨par, part, qty, fr, un, cond⟩ = true by simp only [lineOk, KA.out, n3, q4, q5, q6, q7, decide_eq_true G1.out, decide_eq_true G2.out]; rfl)
      go_wp2_with (first | (go_at_call 36; refine (impl_in _ _ _ _).mono ?_; rintro e w' ⟨rfl, rfl⟩) | (go_at_call 68; refine (implIsCond _ _ _ cond _ RV en64 COK.out).mono ?_; rw [q7]; rintro e w' ⟨rfl, hb7⟩))
      go_roundw
      case rel => exact ⟨k + 1, by omega, by go_num, below_app BV.out hb7 BV.out.size, ST.out GOOD.out⟩
      case measure => simp [intOf]; omega
    · obtain rfl : n = k := by omega
      have ALL : ∀ (j : Nat) (x : Bl), l[j]? = some x → lineOk cat x = true := fun j x hx => hgood.out j x (by rw [← hl.out]; exact (List.getElem?_eq_some_iff.1 hx).1) hx
      have R := Lib.hid (isBills_good HC.out (by rw [hl.out]; exact n24) ALL)
      have IN := Lib.hid (show ∀ x ∈ l, lineIn cat x from fun x hx => by
        obtain ⟨j, hj, rfl⟩ := List.getElem_of_mem hx
        exact (lineOk_true (ALL j _ (List.getElem?_eq_getElem hj))).1)
      clear ALL hgood
      go_wp2_with fail
      refine (implLevels Ac nc cc cat A n c l wr (hrc.below hb) nc12 (hr.below hb) n24 IN.out).mono ?_; rintro e w2 ⟨B, m, d, rfl, -, h2⟩
      go_wp2_with fail
      go_ret
      exact ⟨ret_bool R.out.symm, below_app hb h2 hb.size⟩
set_option maxRecDepth 100000 in
set_option maxHeartbeats 8000000 in
theorem specIsBills (Ac : Option Addr) (nc cc : Nat) (cat : List It) (A : Option Addr) (n c : Nat) (l : List Bl) (w : World) (hrc : RS w 8 Ac nc (cat.flatMap itCell)) (hnc : nc ≤ 9223372036854775807) (hokc : ∀ x ∈ cat, itOk x) (hr : BillsR w A n l) (hn : n ≤ 9223372036854775807) (hok : ∀ x ∈ l, billOk x) :
    Calls Try.prog 41 #[.slice Ac nc cc, .slice A n c] w fun e w' => e = .returned (.bool (isBills cat l)) ∧ Below w.heap.size w w' := by
  have hlc := Lib.hid (hrc.flatLen itCell_len (by omega))
  have hl := Lib.hid hr.len
  have OK := Lib.hid hok; have OKC := Lib.hid hokc
  clear hok hokc
  cases hcat : isCat cat
  · have E0 := Lib.hid (show isBills cat l = false by simp [isBills, hcat])
    go_enter Try.func41, Try.ntmps41
    go_wp2_with fail
    refine (specIsCatalog _ _ _ cat _ hrc hnc OKC.out).mono ?_; rw [hcat]; rintro e w1 ⟨rfl, hb1⟩
    go_wp2_with fail
    go_ret
    exact ⟨ret_bool E0.out.symm, hb1⟩
  have HC := Lib.hid hcat
  have nc12 : nc ≤ 12 := by rw [← hlc.out]; exact isCat_len hcat
  clear hcat
  by_cases hbig : 24 < n
  · have E0 := Lib.hid (show isBills cat l = false by
      have : decide (l.length ≤ 24) = false := by rw [hl.out]; simp; omega
      simp [isBills, this])
    have gd : (24 : Int) < n := by omega
    go_enter Try.func41, Try.ntmps41
    go_wp2_with fail
    refine (specIsCatalog _ _ _ cat _ hrc hnc OKC.out).mono ?_; rw [HC.out]; rintro e w1 ⟨rfl, hb1⟩
    go_wp2_with fail
    go_ret
    exact ⟨ret_bool E0.out.symm, hb1⟩
  have n24 : n ≤ 24 := by omega
  have gd : ¬ (24 : Int) < n := by omega
  clear hbig hn
  go_enter Try.func41, Try.ntmps41
  go_wp2_with fail
  refine (specIsCatalog _ _ _ cat _ hrc hnc OKC.out).mono ?_; rw [HC.out]; rintro e w1 ⟨rfl, hb1⟩
  go_wp2_with fail
  clear gd
  go_loopw [5] (fun i wr => ∃ k : Nat, k ≤ n ∧ i = .int .i64 k ∧ Below w.heap.size w wr ∧ Hid (∀ (j : Nat) (x : Bl), j < k → l[j]? = some x → lineOk cat x = true)) (fun i _ => n - (intOf i).toNat)
  case atStart => exact ⟨0, Nat.zero_le _, rfl, hb1, fun j x h => absurd h (Nat.not_lt_zero _)⟩
  case round =>
    obtain ⟨k, hk, rfl, hb, hgood⟩ := hrel
    clear hb1
    have hz := hb.size
    by_cases hlt : k < n
    · obtain ⟨g, off, rfl, ⟨par, part, qty, fr, un, cond⟩, eA, en, ec, hx, c0, c1, c2, c3, c4, c5, hre⟩ := (hr.below hb).blAt hlt
      simp only at c0 c1 c2 c3 c4 hre
      have hok := OK.out _ (List.mem_of_getElem? hx)
      have cl := hre.flatLen cnCell_len (by omega)
      have en64 : en ≤ 9223372036854775807 := by have := hok.2.2.2.2.2.1; simp only at this; omega
      have COK := Lib.hid (show ∀ y ∈ cond, cnOk y from hok.2.2.2.2.2.2)
      have HX := Lib.hid hx
      clear hx hok cl
      have i1 : (0 : Int) ≤ k := by omega
      have i2 : (k : Int) < n := by omega
      have step : lineOk cat ⟨par, part, qty, fr, un, cond⟩ = true → ∀ (j : Nat) (y : Bl), j < k + 1 → l[j]? = some y → lineOk cat y = true := fun h j y hj hy => by
        rcases Nat.lt_succ_iff_lt_or_eq.1 hj with h' | rfl
        · exact hgood.out j y h' hy
        · rw [HX.out] at hy; injection hy with hy; rw [← hy]; exact h
      have ST := Lib.hid step; clear step
      obtain ⟨v1, hv1⟩ : ∃ v, v = findAt cat par := ⟨_, rfl⟩
      obtain ⟨v2, hv2⟩ : ∃ v, v = findAt cat part := ⟨_, rfl⟩
      have HP := Lib.hid hv1.symm; have HQ := Lib.hid hv2.symm
      clear hv1 hv2
      obtain ⟨U, hU⟩ : ∃ U, U = wr.alloc (Obj.cells #[.string par, .string part, .int .i64 qty, .int .i64 fr, .int .i64 un, .slice eA en ec] 82) := ⟨_, rfl⟩
      have XU := Lib.hid (show U.heap[wr.heap.size]? = some (Obj.cells #[.string par, .string part, .int .i64 qty, .int .i64 fr, .int .i64 un, .slice eA en ec] 82 (0, 0)) by rw [hU]; exact blk_new1 _ _)
      have BU := Lib.hid (show Below w.heap.size w U by rw [hU]; exact hb.alloc hz _)
      have RU := Lib.hid (show RS U 3 eA en (cond.flatMap cnCell) by rw [hU]; exact hre.alloc _)
      clear hb hre
      go_upto_region 7 with fail
      rw [← hU]
      obtain ⟨xb, hxb⟩ : ∃ xb, xb = wr.heap.size := ⟨_, rfl⟩
      rw [← hxb] at XU ⊢
      clear hxb
      clear hU c0 c1 c2 c3 c4 c5
      have x0 := blk_at XU.out (j := 0) rfl; have x1 := blk_at XU.out (j := 1) rfl
      go_wp2_with fail
      refine (specFind Ac nc cc cat par U (hrc.below BU.out) (by omega)).mono ?_; rw [HP.out]; rintro e w2 ⟨rfl, h2⟩
      replace x1 := cell_keep h2 x1
      go_wp2_with fail
      refine (specFind Ac nc cc cat part w2 ((hrc.below BU.out).below h2) (by omega)).mono ?_; rw [HQ.out]; rintro e V ⟨rfl, h3⟩
      have bV := below_then h2 h3
      clear x0 x1 h2 h3
      go_upto_region 9 with fail
      have BV := Lib.hid (below_app BU.out bV BU.out.size)
      have RV := RU.out.below bV
      have XV := Lib.hid (blk_keep bV XU.out)
      have x2 := blk_at XV.out (j := 2) rfl; have x3 := blk_at XV.out (j := 3) rfl; have x4 := blk_at XV.out (j := 4) rfl; have x5 := blk_at XV.out (j := 5) rfl
      clear bV BU RU XU
      by_cases q1 : v1 < 0
      · have g1 : ¬ (0 : Int) ≤ findAt cat par := by rw [HP.out]; omega
        have BAD := Lib.hid (isBills_bad HX.out (show lineOk cat ⟨par, part, qty, fr, un, cond⟩ = false by simp [lineOk, g1]))
        go_wp2_with (first | (go_at_call 30; refine (spec_in _ _ _ _).mono ?_; rintro e w' ⟨rfl, rfl⟩))
        go_ret
        exact ⟨ret_bool BAD.out.symm, BV.out⟩
      have g1 : (0 : Int) ≤ findAt cat par := by rw [HP.out]; omega
      by_cases q2 : v2 < 0
      · have g2 : ¬ (0 : Int) ≤ findAt cat part := by rw [HQ.out]; omega
        have BAD := Lib.hid (isBills_bad HX.out (show lineOk cat ⟨par, part, qty, fr, un, cond⟩ = false by simp [lineOk, g2]))
        go_wp2_with (first | (go_at_call 30; refine (spec_in _ _ _ _).mono ?_; rintro e w' ⟨rfl, rfl⟩))
        go_ret
        exact ⟨ret_bool BAD.out.symm, BV.out⟩
      have g2 : (0 : Int) ≤ findAt cat part := by rw [HQ.out]; omega
      obtain ⟨p, ⟨code, unit, kind, lead, rule, size, safety, scrap⟩, hp, hxc, -⟩ := findAt_some g1
      have KA := Lib.hid (kindAt_at hp hxc)
      rw [HP.out] at hp
      obtain rfl : v1 = (p : Int) := hp
      have pn : p < nc := by have := (List.getElem?_eq_some_iff.1 hxc).1; rw [hlc.out] at this; exact this
      obtain ⟨gc, offc, rfl, y, hy, -, -, d2, -, -, -, -, -⟩ := (hrc.below BV.out).itAt pn
      rw [hxc] at hy
      injection hy with hy
      subst hy
      simp only at d2 KA
      have p0 : (0 : Int) ≤ p := by omega
      have p1 : (p : Int) < nc := by omega
      have G1 := Lib.hid g1; have G2 := Lib.hid g2
      clear hxc g1 g2
      by_cases q3 : kind = 0
      · subst q3
        have BAD := Lib.hid (isBills_bad HX.out (show lineOk cat ⟨par, part, qty, fr, un, cond⟩ = false by simp [lineOk, KA.out]))
        go_wp2_with (first | (go_at_call 30; refine (spec_in _ _ _ _).mono ?_; rintro e w' ⟨rfl, rfl⟩))
        go_ret
        exact ⟨ret_bool BAD.out.symm, BV.out⟩
      have n3 : (kind == 0) = false := by simpa using q3
      cases q4 : inB qty 1 1000
      · have BAD := Lib.hid (isBills_bad HX.out (show lineOk cat ⟨par, part, qty, fr, un, cond⟩ = false by simp [lineOk, q4]))
        go_wp2_with (first | (go_at_call 30; refine (spec_in _ _ _ _).mono ?_; rintro e w' ⟨rfl, rfl⟩))
        go_ret
        exact ⟨ret_bool BAD.out.symm, BV.out⟩
      cases q5 : inB fr 0 999
      · have BAD := Lib.hid (isBills_bad HX.out (show lineOk cat ⟨par, part, qty, fr, un, cond⟩ = false by simp [lineOk, q5]))
        go_wp2_with (first | (go_at_call 30; refine (spec_in _ _ _ _).mono ?_; rintro e w' ⟨rfl, rfl⟩))
        go_ret
        exact ⟨ret_bool BAD.out.symm, BV.out⟩
      cases q6 : inB un fr 999
      · have BAD := Lib.hid (isBills_bad HX.out (show lineOk cat ⟨par, part, qty, fr, un, cond⟩ = false by simp [lineOk, q6]))
        go_wp2_with (first | (go_at_call 30; refine (spec_in _ _ _ _).mono ?_; rintro e w' ⟨rfl, rfl⟩))
        go_ret
        exact ⟨ret_bool BAD.out.symm, BV.out⟩
      cases q7 : isCond cond
      · have BAD := Lib.hid (isBills_bad HX.out (show lineOk cat ⟨par, part, qty, fr, un, cond⟩ = false by simp [lineOk, q7]))
        go_wp2_with (first | (go_at_call 30; refine (spec_in _ _ _ _).mono ?_; rintro e w' ⟨rfl, rfl⟩) | (go_at_call 65; refine (specIsCond _ _ _ cond _ RV en64 COK.out).mono ?_; rw [q7]; rintro e w' ⟨rfl, hb7⟩))
        go_ret
        exact ⟨ret_bool BAD.out.symm, below_app BV.out hb7 BV.out.size⟩
      have GOOD := Lib.hid (show lineOk cat ⟨par, part, qty, fr, un, cond⟩ = true by simp only [lineOk, KA.out, n3, q4, q5, q6, q7, decide_eq_true G1.out, decide_eq_true G2.out]; rfl)
      go_wp2_with (first | (go_at_call 30; refine (spec_in _ _ _ _).mono ?_; rintro e w' ⟨rfl, rfl⟩) | (go_at_call 65; refine (specIsCond _ _ _ cond _ RV en64 COK.out).mono ?_; rw [q7]; rintro e w' ⟨rfl, hb7⟩))
      go_roundw
      case rel => exact ⟨k + 1, by omega, by go_num, below_app BV.out hb7 BV.out.size, ST.out GOOD.out⟩
      case measure => simp [intOf]; omega
    · obtain rfl : n = k := by omega
      have ALL : ∀ (j : Nat) (x : Bl), l[j]? = some x → lineOk cat x = true := fun j x hx => hgood.out j x (by rw [← hl.out]; exact (List.getElem?_eq_some_iff.1 hx).1) hx
      have R := Lib.hid (isBills_good HC.out (by rw [hl.out]; exact n24) ALL)
      have IN := Lib.hid (show ∀ x ∈ l, lineIn cat x from fun x hx => by
        obtain ⟨j, hj, rfl⟩ := List.getElem_of_mem hx
        exact (lineOk_true (ALL j _ (List.getElem?_eq_getElem hj))).1)
      clear ALL hgood
      go_wp2_with fail
      refine (specLevels Ac nc cc cat A n c l wr (hrc.below hb) nc12 (hr.below hb) n24 IN.out).mono ?_; rintro e w2 ⟨B, m, d, rfl, o2, h2⟩
      have ml := own_ints o2
      cases hok : lvOk cat l
      · have e0 : m = 0 := by rw [← ml, lvRes_no hok]; rfl
        have nz : 0 < nc := by rw [← hlc.out]; exact lvOk_nil hok
        subst e0
        have gz : ((0 : Int) == (nc : Int)) = false := by simp; omega
        have HOK := Lib.hid hok
        clear ml o2 hok
        go_wp2_with fail
        go_ret
        exact ⟨ret_bool (by rw [R.out, HOK.out]), below_app hb h2 hb.size⟩
      · have e0 : m = nc := by rw [← ml, lvRes_yes hok, lvs, lvIter_len]; exact hlc.out
        subst e0
        have HOK := Lib.hid hok
        clear ml o2 hok
        go_wp2_with fail
        go_ret
        exact ⟨ret_bool (by rw [R.out, HOK.out]), below_app hb h2 hb.size⟩
end Go.Proofs.Ytnhkpdaogclfjaa
