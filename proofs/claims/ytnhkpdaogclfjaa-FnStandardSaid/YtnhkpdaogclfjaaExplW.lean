/- Explosions: the walk of Explosion. No condition. -/
import Derived.Test.YtnhkpdaogclfjaaExpW
import Derived.Test.YtnhkpdaogclfjaaStdW
namespace Go.Proofs.Ytnhkpdaogclfjaa
open Go.ChangeShapes Go.WideShapes Go.ChangeAt Go.RowKit

/-- What an explosion of one piece gives: the list is worth the cost without a limit. -/
def ExEnd (w : World) (cat : List It) (l : List Bl) (s : ByteArray) (day : Int) (ch : List Pk) (pc : ByteArray → Int) (e : Ending) (w' : World) : Prop :=
  ∃ (A : Option Addr) (q c : Nat) (b : Bool) (ds : List Nd), e = .returned (.tuple #[.slice A q c, .bool b]) ∧ RS w' 2 A q (ds.flatMap ndCell) ∧ q ≤ 12 ∧ (∀ x ∈ ds, 0 ≤ x.qty ∧ x.qty ≤ 1000000000) ∧
    (b = true → nsum pc ds + pc s = costT (force l day ch) pc cat.length s) ∧ Below w.heap.size w w'
set_option maxRecDepth 100000 in
set_option maxHeartbeats 1000000 in
theorem implExplosion (Ac : Option Addr) (nc cc : Nat) (cat : List It) (A : Option Addr) (n c : Nat) (l : List Bl) (s : ByteArray) (day : Int) (B : Option Addr) (m d : Nat) (ch : List Pk) (pc : ByteArray → Int) (w : World)
    (hrc : RS w 8 Ac nc (cat.flatMap itCell)) (hnc : nc ≤ 9223372036854775807) (hokc : ∀ x ∈ cat, itOk x) (hr : BillsR w A n l) (hn : n ≤ 9223372036854775807) (hok : ∀ x ∈ l, billOk x)
    (hrp : RS w 2 B m (ch.flatMap pkCell)) (hm : m ≤ 9223372036854775807) :
    Calls Try.prog 24 #[.slice Ac nc cc, .slice A n c, .string s, .int .i64 1, .int .i64 day, .slice B m d] w (ExEnd w cat l s day ch pc) := by
  have hlc := Lib.hid (hrc.flatLen itCell_len (by omega))
  have hl := Lib.hid hr.len
  have OKC := Lib.hid hokc; have OK := Lib.hid hok
  clear hokc hok
  obtain ⟨fv, hfv⟩ : ∃ fv, fv = findAt cat s := ⟨_, rfl⟩
  have HF := Lib.hid hfv.symm
  clear hfv
  cases hbi : isBills cat l
  · go_enter Try.func24, Try.ntmps24
    go_wp2_with fail
    refine (implFind _ _ _ cat s _ hrc hnc).mono ?_; rw [HF.out]; rintro e w1 ⟨rfl, b1⟩
    go_wp2_with fail
    refine (implIsBills _ _ _ cat _ _ _ l _ (hrc.below b1) hnc OKC.out (hr.below b1) hn OK.out).mono ?_; rw [hbi]; rintro e w2 ⟨rfl, b2⟩
    go_wp2_with fail
    go_ret2
    exact ⟨none, 0, 0, false, [], rfl, RS.nil _ _ _, by omega, by simp, (fun h => by cases h), below_then b1 b2⟩
  have HBI := Lib.hid hbi
  clear hbi
  by_cases hf0 : fv < 0
  · go_enter Try.func24, Try.ntmps24
    go_wp2_with fail
    refine (implFind _ _ _ cat s _ hrc hnc).mono ?_; rw [HF.out]; rintro e w1 ⟨rfl, b1⟩
    go_wp2_with fail
    refine (implIsBills _ _ _ cat _ _ _ l _ (hrc.below b1) hnc OKC.out (hr.below b1) hn OK.out).mono ?_; rw [HBI.out]; rintro e w2 ⟨rfl, b2⟩
    go_wp2_with fail
    go_ret2
    exact ⟨none, 0, 0, false, [], rfl, RS.nil _ _ _, by omega, by simp, (fun h => by cases h), below_then b1 b2⟩
  have HFS := Lib.hid (show 0 ≤ findAt cat s by rw [HF.out]; omega)
  obtain ⟨f, it, hfk, hit, hcode⟩ := findAt_some HFS.out
  rw [HF.out] at hfk
  subst hfk
  subst hcode
  have HIT := Lib.hid hit
  have TR := isBills_true HBI.out
  have n24 : n ≤ 24 := by rw [← hl.out]; exact TR.2.1
  have nc12 : nc ≤ 12 := by rw [← hlc.out]; exact isCat_len TR.1
  have IC := Lib.hid (show ∀ x ∈ l, isCond x.cond = true from fun x hx => (lineOk_true (TR.2.2.1 x hx)).2.2.2.2.2.2.2.2)
  have CT := Lib.hid TR.1
  have RI := rises_of HBI.out day ch
  have IN := Lib.hid (show ∀ x ∈ force l day ch, lineIn cat x from fun x hx => bills_in HBI.out x (force_sub hx))
  have QQ := Lib.hid (show ∀ x ∈ force l day ch, 1 ≤ x.qty ∧ x.qty ≤ 1000 from fun x hx => (RI x hx).2.2.2)
  have LV := Lib.hid (force_lvOk HBI.out day ch)
  have TT := Lib.hid (show ∀ (i : Nat) (x : It), cat[i]? = some x → costT (force l day ch) pc cat.length x.code = pc x.code + lsum (lnPart (costT (force l day ch) pc cat.length) x.code) (force l day ch) from fun i x hx => by
    have h1 := lvl_bd HBI.out (s := x.code) (by rw [find_self CT.out hx]; omega)
    exact costT_all RI x.code h1.1 h1.2)
  clear hit TR RI
  have gd : decide ((f : Int) < 0) = false := by simp
  go_enter Try.func24, Try.ntmps24
  go_wp2_with fail
  refine (implFind _ _ _ cat it.code _ hrc hnc).mono ?_; rw [HF.out]; rintro e w1 ⟨rfl, b1⟩
  go_wp2_with fail
  refine (implIsBills _ _ _ cat _ _ _ l _ (hrc.below b1) hnc OKC.out (hr.below b1) hn OK.out).mono ?_; rw [HBI.out]; rintro e w2 ⟨rfl, b2⟩
  have B2 := Lib.hid (below_then b1 b2)
  clear b1 b2
  go_wp2_with fail
  refine (impl_in 1 0 100000 _).mono ?_; rw [show inB 1 0 100000 = true from rfl]; rintro e w3 ⟨rfl, rfl⟩
  go_wp2_with fail
  refine (implInForce A n c l day B m d ch w2 (hr.below B2.out) n24 IC.out OK.out (hrp.below B2.out) hm).mono ?_; rintro e w3 ⟨A', n', c', rfl, LO, hn', b3⟩
  have B3 := Lib.hid (below_then B2.out b3)
  clear b3
  go_wp2_with fail
  refine (implPieces (costT (force l day ch) pc cat.length) pc Ac nc cc cat A' n' c' (force l day ch) f it w3 (hrc.below B3.out) nc12 CT.out LO.read hn' IN.out LV.out QQ.out HIT.out TT.out).mono ?_; rintro e w4 ⟨Bo, mo, do_, b, o, rfl, hP, b4⟩
  have B4 := Lib.hid (below_then B3.out b4)
  clear b4 LO
  cases b
  · clear hP
    go_wp2_with fail
    go_ret2
    exact ⟨none, 0, 0, false, [], rfl, RS.nil _ _ _, by omega, by simp, (fun h => by cases h), B4.out⟩
  · obtain ⟨own, hmo, hbd, hsum⟩ := hP rfl
    subst hmo
    have HB := Lib.hid hbd; have HSm := Lib.hid hsum; have OW := Lib.hid own
    clear hP hbd hsum own
    go_wp2_with fail
    refine (implNeeds Ac mo cc cat Bo do_ o w4 (hrc.below B4.out) nc12 (RS.of_own OW.out)).mono ?_; rintro e w5 ⟨Aq, q, cq, rfl, oq, b5⟩
    have B5 := Lib.hid (below_then B4.out b5)
    have OQ := Lib.hid oq
    clear b5 oq
    go_wp2_with fail
    go_ret2
    refine ⟨Aq, q, cq, true, ndsOf cat o mo, rfl, RS.of_own OQ.out, ?_, nds_pos cat o 1000000000 mo fun j hj => (HB.out j hj).2, fun _ => ?_, B5.out⟩
    · have h1 := (RS.of_own OQ.out).flatLen ndCell_len (by omega)
      have h2 := nds_len cat o mo
      omega
    · rw [nds_sum pc mo (by rw [hlc.out]; exact Nat.le_refl _) fun j hj => (HB.out j hj).1]
      exact HSm.out
end Go.Proofs.Ytnhkpdaogclfjaa
