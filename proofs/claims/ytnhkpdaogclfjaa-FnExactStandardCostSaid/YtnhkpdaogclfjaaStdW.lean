/- Standard costs: the walk of the program's StandardCost. No condition. -/
import Derived.Test.YtnhkpdaogclfjaaStdP
namespace Go.Proofs.Ytnhkpdaogclfjaa
open Go.ChangeShapes Go.WideShapes Go.ChangeAt Go.RowKit Go.Maps Go.ChangeMaps Go.WideMaps

set_option maxRecDepth 100000 in
set_option maxHeartbeats 8000000 in
theorem implStd (Ac : Option Addr) (nc cc : Nat) (cat : List It) (A : Option Addr) (n c : Nat) (l : List Bl) (P : Option Addr) (np cp : Nat) (pr : List Nd) (s : ByteArray) (day : Int) (B : Option Addr) (m d : Nat) (ch : List Pk) (w : World)
    (hrc : RS w 8 Ac nc (cat.flatMap itCell)) (hnc : nc ≤ 9223372036854775807) (hokc : ∀ x ∈ cat, itOk x) (hr : BillsR w A n l) (hn : n ≤ 9223372036854775807) (hok : ∀ x ∈ l, billOk x)
    (hp : RS w 2 P np (pr.flatMap ndCell)) (hnp : np ≤ 9223372036854775807) (hrp : RS w 2 B m (ch.flatMap pkCell)) (hm : m ≤ 9223372036854775807) :
    Calls Try.prog 19 #[.slice Ac nc cc, .slice A n c, .slice P np cp, .string s, .int .i64 day, .slice B m d] w fun e w' => e = .returned (.tuple #[.int .i64 (stdN cat l pr s day ch), .bool (stdB cat l pr s day ch)]) ∧ Below w.heap.size w w' := by
  have hlc := Lib.hid (hrc.flatLen itCell_len (by omega))
  have hl := Lib.hid hr.len
  have OKC := Lib.hid hokc; have OK := Lib.hid hok
  clear hokc hok
  cases hbi : isBills cat l
  · have S0 := Lib.hid (show stdB cat l pr s day ch = false by simp [stdB, stdOk, hbi])
    have S1 := Lib.hid (std_no S0.out)
    go_enter Try.func19, Try.ntmps19
    go_wp2_with fail
    refine (implIsBills _ _ _ cat _ _ _ l _ hrc hnc OKC.out hr hn OK.out).mono ?_; rw [hbi]; rintro e w1 ⟨rfl, b1⟩
    go_wp2_with fail
    go_ret2
    exact ⟨by rw [S0.out, S1.out]; rfl, b1⟩
  have HBI := Lib.hid hbi
  clear hbi
  cases hap : arePrices cat pr
  · have S0 := Lib.hid (show stdB cat l pr s day ch = false by simp [stdB, stdOk, hap])
    have S1 := Lib.hid (std_no S0.out)
    go_enter Try.func19, Try.ntmps19
    go_wp2_with fail
    refine (implIsBills _ _ _ cat _ _ _ l _ hrc hnc OKC.out hr hn OK.out).mono ?_; rw [HBI.out]; rintro e w1 ⟨rfl, b1⟩
    go_wp2_with fail
    refine (implArePrices _ _ _ cat _ _ _ pr _ (hrc.below b1) hnc (hp.below b1) hnp OKC.out).mono ?_; rw [hap]; rintro e w2 ⟨rfl, b2⟩
    go_wp2_with fail
    go_ret2
    exact ⟨by rw [S0.out, S1.out]; rfl, below_then b1 b2⟩
  have HAP := Lib.hid hap
  clear hap
  obtain ⟨fv, hfv⟩ : ∃ fv, fv = findAt cat s := ⟨_, rfl⟩
  have HF := Lib.hid hfv.symm
  clear hfv
  by_cases hf0 : fv < 0
  · have S0 := Lib.hid (show stdB cat l pr s day ch = false by
      have : ¬ 0 ≤ findAt cat s := by rw [HF.out]; omega
      simp [stdB, stdOk, this])
    have S1 := Lib.hid (std_no S0.out)
    go_enter Try.func19, Try.ntmps19
    go_wp2_with fail
    refine (implIsBills _ _ _ cat _ _ _ l _ hrc hnc OKC.out hr hn OK.out).mono ?_; rw [HBI.out]; rintro e w1 ⟨rfl, b1⟩
    go_wp2_with fail
    refine (implArePrices _ _ _ cat _ _ _ pr _ (hrc.below b1) hnc (hp.below b1) hnp OKC.out).mono ?_; rw [HAP.out]; rintro e w2 ⟨rfl, b2⟩
    go_wp2_with fail
    refine (implFind _ _ _ cat s _ ((hrc.below b1).below b2) hnc).mono ?_; rw [HF.out]; rintro e w3 ⟨rfl, b3⟩
    go_wp2_with fail
    go_ret2
    exact ⟨by rw [S0.out, S1.out]; rfl, below_then b1 (below_then b2 b3)⟩
  have HFS := Lib.hid (show 0 ≤ findAt cat s by rw [HF.out]; omega)
  have S0 := Lib.hid (show stdB cat l pr s day ch = decide (0 ≤ stdC cat l pr s day ch) by
    simp [stdB, stdOk, HBI.out, HAP.out, HFS.out])
  have TR := isBills_true HBI.out
  have n24 : n ≤ 24 := by rw [← hl.out]; exact TR.2.1
  have nc12 : cat.length ≤ 12 := isCat_len TR.1
  have IC := Lib.hid (show ∀ x ∈ l, isCond x.cond = true from fun x hx => (lineOk_true (TR.2.2.1 x hx)).2.2.2.2.2.2.2.2)
  have S8 := find_size TR.1 HFS.out
  have P8 := Lib.hid (show ∀ x ∈ force l day ch, x.part.size ≤ 8 from fun x hx => find_size TR.1 (bills_in HBI.out x (force_sub hx)).2)
  have LB := lvl_bd HBI.out HFS.out
  have RI := Lib.hid (rises_of HBI.out day ch)
  have CB := costS_ok (force l day ch) (priceIn pr) (price_ok pr) cat.length s
  obtain ⟨v, hv⟩ : ∃ v, v = stdC cat l pr s day ch := ⟨_, rfl⟩
  have CV := Lib.hid (show costS (force l day ch) (priceIn pr) cat.length s = v from hv.symm)
  rw [CV.out] at CB
  have SN := Lib.hid (std_yes (cat := cat) (l := l) (pr := pr) (s := s) (day := day) (ch := ch))
  have SX := Lib.hid (std_no (cat := cat) (l := l) (pr := pr) (s := s) (day := day) (ch := ch))
  rw [← hv] at S0 SN
  unfold cOk at CB
  clear hv TR
  have hmm := @run_makeMap Try.prog
  go_enter Try.func19, Try.ntmps19
  go_wp2_with fail
  refine (implIsBills _ _ _ cat _ _ _ l _ hrc hnc OKC.out hr hn OK.out).mono ?_; rw [HBI.out]; rintro e w1 ⟨rfl, b1⟩
  go_wp2_with fail
  refine (implArePrices _ _ _ cat _ _ _ pr _ (hrc.below b1) hnc (hp.below b1) hnp OKC.out).mono ?_; rw [HAP.out]; rintro e w2 ⟨rfl, b2⟩
  go_wp2_with fail
  refine (implFind _ _ _ cat s _ ((hrc.below b1).below b2) hnc).mono ?_; rw [HF.out]; rintro e w3 ⟨rfl, b3⟩
  have B3 := Lib.hid (below_then b1 (below_then b2 b3))
  clear b1 b2 b3
  go_wp2_with fail
  refine (implInForce A n c l day B m d ch w3 (hr.below B3.out) n24 IC.out OK.out (hrp.below B3.out) hm).mono ?_; rintro e W0 ⟨A', n', c', rfl, LO, hn', b4⟩
  have B4 := Lib.hid (below_then B3.out b4)
  have RA := Lib.hid LO.read
  have M0 : ownsCosts (W0.alloc (.map #[] 0)) W0.heap.size 0 (.map []) := World.ownsMap_made W0 Try.prog _ _
  have bM := below_box W0 (Obj.map #[] 0)
  clear LO b4
  have CC := implCosts W0 A' n' c' (force l day ch) P np cp pr (lvl cat l) cat.length RA.out hn' (hp.below B4.out) hnp RI.out P8.out cat.length s (W0.alloc (.map #[] 0)) (.map []) 0 (by omega) LB.1 LB.2 S8 (by have := puts_12 nc12; omega) bM (by simp) M0 (known_nil _)
  unfold CostEnd at CC
  rw [CV.out] at CC
  have HCC := Lib.hid CC
  clear CC
  go_wp2_with fail
  refine HCC.out.mono ?_; rintro e w5 ⟨rfl, g5, -⟩
  have B5 := Lib.hid (below_then B4.out (below_gr bM g5))
  clear g5 HCC M0 bM B3 B4
  by_cases hv0 : v < 0
  · have D0 := Lib.hid (show stdB cat l pr s day ch = false by rw [S0.out]; simp; omega)
    have D1 := Lib.hid (SX.out D0.out)
    go_wp2_with fail
    go_ret2
    exact ⟨by rw [D0.out, D1.out]; rfl, B5.out⟩
  · have D0 := Lib.hid (show stdB cat l pr s day ch = true by rw [S0.out]; simp; omega)
    have D1 := Lib.hid (SN.out D0.out)
    go_wp2_with fail
    go_ret2
    exact ⟨by rw [D0.out, D1.out]; rfl, B5.out⟩
end Go.Proofs.Ytnhkpdaogclfjaa
