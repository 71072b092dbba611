/- The reference's walk over uses. No condition. -/
import Derived.Test.YtaldlinekipblaaReach
namespace Go.Proofs.Ytaldlinekipblaa
open Go.ChangeShapes Go.WideShapes Go.ChangeAt Go.RowKit

theorem RS_drop1 {w : World} {g m : Nat} {L : List ByteArray} (h : RS w 1 (some ⟨g, 0, none⟩) m (L.flatMap stCell)) (hm : 1 ≤ m) : RS w 1 (some ⟨g, 1, none⟩) (m - 1) ((L.drop 1).flatMap stCell) := by
  have hl := h.flatLen stCell_len (by omega)
  refine ⟨by rw [flat_len stCell stCell_len]; simp; omega, fun hp => ⟨g, 1, rfl, fun j u hu => ?_⟩⟩
  obtain ⟨g', off', e, hc⟩ := h.at_ (by omega)
  obtain ⟨rfl, rfl⟩ : g = g' ∧ 0 = off' := by simpa using e
  rw [st_flat, List.map_drop, ← st_flat, List.getElem?_drop] at hu
  have := hc _ _ hu
  simpa using this
set_option maxRecDepth 100000 in
set_option maxHeartbeats 4000000 in
theorem specWalkDown (A : Option Addr) (n c : Nat) (us : List Us) (b : ByteArray) (w : World) (hr : RS w 3 A n (us.flatMap usCell)) (hn : n ≤ 1048600) :
    Calls Try.prog 35 #[.slice A n c, .string b, .bool false] w fun e w' => ∃ A' m c', e = .returned (.slice A' m c') ∧ m ≤ n ∧ RS w' 1 A' m ((restL false us b).flatMap stCell) ∧ Below w.heap.size w w' := by
  have hl := Lib.hid (hr.flatLen usCell_len (by omega))
  obtain ⟨i0, hi, hz0, hz1, hz2⟩ := info_parts stInfo
  have ST := Lib.hid (own_new w (base := w.heap.size) (e := 9) (size := 1) (n := 1) #[.string b] (Nat.le_refl _) (by unfold maxLen; omega) rfl)
  go_enter Try.func35, Try.ntmps35
  go_wp2
  go_loopw [7, 8] (fun f i wr => ∃ (j m : Nat) (A' : Option Addr) (c' : Nat) (L : List ByteArray), i = .int .i64 j ∧ f = .slice A' m c' ∧ 1 ≤ m ∧ j ≤ m ∧ m ≤ n + 1 ∧ Hid (L = found false us b j) ∧ Hid (L.length = m) ∧
      wr.ownsRow w.heap.size 9 1 (.slice A' m c') m (L.flatMap stCell) ∧ Below w.heap.size w wr) (fun _ i _ => n + 1 - (intOf i).toNat)
  case atStart => exact ⟨0, 1, _, _, [b], rfl, rfl, by omega, by omega, by omega, rfl, rfl, by simpa [flat_one, stCell] using ST.out, (Below.refl _ _).alloc (Nat.le_refl _) _⟩
  case round =>
    obtain ⟨j, m, A', c', L, rfl, rfl, hm1, hjm, hm, HL, HM, O, hb⟩ := hrel
    clear ST
    by_cases hlt : j < m
    · obtain ⟨cur, hcur⟩ : ∃ cur, L[j]? = some cur := ⟨_, List.getElem?_eq_getElem (by rw [HM.out]; exact hlt)⟩
      have hcf : (found false us b j)[j]? = some cur := by rw [← HL.out]; exact hcur
      have HFS := Lib.hid (show found false us b (j + 1) = seeTo false us cur L n by rw [found_step hcf, ← HL.out, hl.out])
      have SL := Lib.hid (show ∀ k, (seeTo false us cur L k).length ≤ n + 1 by intro k; rw [HL.out, ← hl.out]; exact seeTo_len hcf k)
      have CU := Lib.hid (seeTo_cur (up := false) (us := us) hcur)
      clear hcur hcf
      have i1 : (0 : Int) ≤ j := by omega
      have i2 : (j : Int) < m := by omega
      go_wp2_with fail
      go_loopw [7, 9] (fun f i wr => ∃ (k m : Nat) (A' : Option Addr) (c' : Nat), k ≤ n ∧ i = .int .i64 k ∧ f = .slice A' m c' ∧ j < m ∧ m ≤ n + 1 ∧ Hid ((seeTo false us cur L k).length = m) ∧
          wr.ownsRow w.heap.size 9 1 (.slice A' m c') m ((seeTo false us cur L k).flatMap stCell) ∧ Below w.heap.size w wr) (fun _ i _ => n - (intOf i).toNat)
      case atStart => exact ⟨0, m, A', c', Nat.zero_le _, rfl, rfl, hlt, hm, by rw [Hid, seeTo_zero]; exact HM.out, by rw [seeTo_zero]; exact O, hb⟩
      case round =>
        obtain ⟨k, p, A2, c2, hk, rfl, rfl, hjp, hp, HP, O2, hb2⟩ := hrel
        clear O hb i2
        have i2 : (j : Int) < p := by omega
        by_cases hlt2 : k < n
        · obtain ⟨g, off, rfl, ⟨frm, into, q⟩, hx, h0, h1, h2⟩ := (hr.below hb2).usAt hlt2
          simp only at h0 h1 h2
          have SS := Lib.hid (seeTo_succ (up := false) (cur := cur) (f := L) hx)
          have SK := SL.out (k + 1)
          clear hx
          have hre := RS.of_own O2
          obtain ⟨g2, off2, rfl, y, hy, hc⟩ := hre.stAt hjp
          rw [CU.out k] at hy
          obtain rfl := Option.some.inj hy
          clear hy
          have j1 : (0 : Int) ≤ k := by omega
          have j2 : (k : Int) < n := by omega
          by_cases ha : frm = cur
          · subst ha
            by_cases hin : into ∈ seeTo false us frm L k
            · have pp := posB_in hin
              have SE := Lib.hid (SS.out.trans (see_old (u := ⟨frm, into, q⟩) hin)); clear SS
              have n0 : ¬ posB (seeTo false us frm L k) into < 0 := by omega
              go_wp2_with fail
              refine (specFind _ _ _ (seeTo false us frm L k) into _ hre (by omega)).mono ?_; rintro e w4 ⟨rfl, rfl⟩
              go_wp2_with fail
              go_roundw
              case rel => exact ⟨k + 1, p, _, c2, by omega, by go_num, rfl, hjp, hp, by rw [Hid, SE.out]; exact HP.out, by rw [SE.out]; exact O2, hb2⟩
              case measure => simp [intOf]; omega
            · have pp := posB_none hin
              have SE := Lib.hid (show seeTo false us frm L (k + 1) = seeTo false us frm L k ++ [into] from SS.out.trans (see_hit (u := ⟨frm, into, q⟩) rfl hin)); clear SS
              have SE' := Lib.hid (show (seeTo false us frm L (k + 1)).length = p + 1 by rw [SE.out]; simp [HP.out])
              rw [SE'.out] at SK
              have n0 : posB (seeTo false us frm L k) into < 0 := by omega
              clear pp
              have zb := hb2.size
              go_wp2_with fail
              refine (specFind _ _ _ (seeTo false us frm L k) into _ hre (by omega)).mono ?_; rintro e w4 ⟨rfl, rfl⟩
              go_wp2_with (at_builtin; refine wpList_app _ rfl _ _ _ rfl w.heap.size 9 i0 _ 1 16 Try.underlying24 hi hz0 hz1 hz2 rfl (by omega) _ p _ rfl (O2.alloc _) _ 1 1 (stCell into) rfl (RS_new (by simp)) (stCell_one _) (by unfold maxLen; omega) (by omega) (by simp; omega) ?_; intro A5 c5 w5 o5 g5 at5 b5; have B5 := Lib.hid ((hb2.alloc zb (Obj.cells #[.string into] 9)).trans b5); clear g5 at5 b5)
              rw [← flat_one stCell, ← flat_append, ← SE.out] at o5
              go_roundw
              case rel => exact ⟨k + 1, p + 1, A5, c5, by omega, by go_num, rfl, by omega, SK, SE'.out, o5, B5.out⟩
              case measure => simp [intOf]; omega
          · have SE := Lib.hid (SS.out.trans (see_far (u := ⟨frm, into, q⟩) ha)); clear SS
            have hne := text_ne ha
            have hneb : (frm.toList == cur.toList) = false := by simpa using hne
            clear ha
            go_wp2_with fail
            go_roundw
            case rel => exact ⟨k + 1, p, _, c2, by omega, by go_num, rfl, hjp, hp, by rw [Hid, SE.out]; exact HP.out, by rw [SE.out]; exact O2, hb2⟩
            case measure => simp [intOf]; omega
        · obtain rfl : n = k := by omega
          go_wp2_with fail
          go_roundw
          case rel => exact ⟨j + 1, p, A2, c2, seeTo false us cur L n, by go_num, rfl, by omega, by omega, hp, HFS.out.symm, HP, O2, hb2⟩
          case measure => simp [intOf]; omega
    · obtain rfl : m = j := by omega
      have E := Lib.hid (show reachL false us b = L by rw [HL.out]; exact found_end (by rw [← HL.out, HM.out]; exact Nat.le_refl _) (by rw [hl.out]; exact hm))
      obtain ⟨g, rfl, _, _, _, _⟩ := own_addr O (by omega)
      have hre := RS_drop1 (RS.of_own O) hm1
      obtain ⟨A9, c9, ec, hcm, _⟩ := own_slice O
      obtain rfl : c' = c9 := by injection ec
      clear ec
      have i1 : (1 : Int) ≤ m := by omega
      have i2 : ¬ (m : Int) < m := by omega
      have i3 : (m : Int) ≤ c' := by omega
      by_cases hc1 : c' = 1
      · obtain rfl : m = 1 := by omega
        subst hc1
        have RN := Lib.hid (show ∀ (A : Option Addr), RS wr 1 A 0 ((restL false us b).flatMap stCell) by
          intro A
          have : restL false us b = [] := List.drop_eq_nil_of_le (by rw [E.out, HM.out]; omega)
          rw [this]; exact RS.nil _ _ _)
        go_wp2_with fail
        go_ret
        exact ⟨_, 0, ⟨_, rfl⟩, by omega, RN.out _, hb⟩
      · have hre := Lib.hid hre
        go_wp2_with fail
        go_ret
        exact ⟨_, m - 1, ⟨_, rfl⟩, by omega, by rw [restL, E.out]; exact hre.out, hb⟩
set_option maxRecDepth 100000 in
set_option maxHeartbeats 4000000 in
theorem specWalkUp (A : Option Addr) (n c : Nat) (us : List Us) (b : ByteArray) (w : World) (hr : RS w 3 A n (us.flatMap usCell)) (hn : n ≤ 1048600) :
    Calls Try.prog 35 #[.slice A n c, .string b, .bool true] w fun e w' => ∃ A' m c', e = .returned (.slice A' m c') ∧ m ≤ n ∧ RS w' 1 A' m ((restL true us b).flatMap stCell) ∧ Below w.heap.size w w' := by
  have hl := Lib.hid (hr.flatLen usCell_len (by omega))
  obtain ⟨i0, hi, hz0, hz1, hz2⟩ := info_parts stInfo
  have ST := Lib.hid (own_new w (base := w.heap.size) (e := 9) (size := 1) (n := 1) #[.string b] (Nat.le_refl _) (by unfold maxLen; omega) rfl)
  go_enter Try.func35, Try.ntmps35
  go_wp2
  go_loopw [7, 8] (fun f i wr => ∃ (j m : Nat) (A' : Option Addr) (c' : Nat) (L : List ByteArray), i = .int .i64 j ∧ f = .slice A' m c' ∧ 1 ≤ m ∧ j ≤ m ∧ m ≤ n + 1 ∧ Hid (L = found true us b j) ∧ Hid (L.length = m) ∧
      wr.ownsRow w.heap.size 9 1 (.slice A' m c') m (L.flatMap stCell) ∧ Below w.heap.size w wr) (fun _ i _ => n + 1 - (intOf i).toNat)
  case atStart => exact ⟨0, 1, _, _, [b], rfl, rfl, by omega, by omega, by omega, rfl, rfl, by simpa [flat_one, stCell] using ST.out, (Below.refl _ _).alloc (Nat.le_refl _) _⟩
  case round =>
    obtain ⟨j, m, A', c', L, rfl, rfl, hm1, hjm, hm, HL, HM, O, hb⟩ := hrel
    clear ST
    by_cases hlt : j < m
    · obtain ⟨cur, hcur⟩ : ∃ cur, L[j]? = some cur := ⟨_, List.getElem?_eq_getElem (by rw [HM.out]; exact hlt)⟩
      have hcf : (found true us b j)[j]? = some cur := by rw [← HL.out]; exact hcur
      have HFS := Lib.hid (show found true us b (j + 1) = seeTo true us cur L n by rw [found_step hcf, ← HL.out, hl.out])
      have SL := Lib.hid (show ∀ k, (seeTo true us cur L k).length ≤ n + 1 by intro k; rw [HL.out, ← hl.out]; exact seeTo_len hcf k)
      have CU := Lib.hid (seeTo_cur (up := true) (us := us) hcur)
      clear hcur hcf
      have i1 : (0 : Int) ≤ j := by omega
      have i2 : (j : Int) < m := by omega
      go_wp2_with fail
      go_loopw [7, 9] (fun f i wr => ∃ (k m : Nat) (A' : Option Addr) (c' : Nat), k ≤ n ∧ i = .int .i64 k ∧ f = .slice A' m c' ∧ j < m ∧ m ≤ n + 1 ∧ Hid ((seeTo true us cur L k).length = m) ∧
          wr.ownsRow w.heap.size 9 1 (.slice A' m c') m ((seeTo true us cur L k).flatMap stCell) ∧ Below w.heap.size w wr) (fun _ i _ => n - (intOf i).toNat)
      case atStart => exact ⟨0, m, A', c', Nat.zero_le _, rfl, rfl, hlt, hm, by rw [Hid, seeTo_zero]; exact HM.out, by rw [seeTo_zero]; exact O, hb⟩
      case round =>
        obtain ⟨k, p, A2, c2, hk, rfl, rfl, hjp, hp, HP, O2, hb2⟩ := hrel
        clear O hb i2
        have i2 : (j : Int) < p := by omega
        by_cases hlt2 : k < n
        · obtain ⟨g, off, rfl, ⟨frm, into, q⟩, hx, h0, h1, h2⟩ := (hr.below hb2).usAt hlt2
          simp only at h0 h1 h2
          have SS := Lib.hid (seeTo_succ (up := true) (cur := cur) (f := L) hx)
          have SK := SL.out (k + 1)
          clear hx
          have hre := RS.of_own O2
          obtain ⟨g2, off2, rfl, y, hy, hc⟩ := hre.stAt hjp
          rw [CU.out k] at hy
          obtain rfl := Option.some.inj hy
          clear hy
          have j1 : (0 : Int) ≤ k := by omega
          have j2 : (k : Int) < n := by omega
          by_cases ha : into = cur
          · subst ha
            by_cases hin : frm ∈ seeTo true us into L k
            · have pp := posB_in hin
              have SE := Lib.hid (SS.out.trans (see_old (u := ⟨frm, into, q⟩) hin)); clear SS
              have n0 : ¬ posB (seeTo true us into L k) frm < 0 := by omega
              go_wp2_with fail
              refine (specFind _ _ _ (seeTo true us into L k) frm _ hre (by omega)).mono ?_; rintro e w4 ⟨rfl, rfl⟩
              go_wp2_with fail
              go_roundw
              case rel => exact ⟨k + 1, p, _, c2, by omega, by go_num, rfl, hjp, hp, by rw [Hid, SE.out]; exact HP.out, by rw [SE.out]; exact O2, hb2⟩
              case measure => simp [intOf]; omega
            · have pp := posB_none hin
              have SE := Lib.hid (show seeTo true us into L (k + 1) = seeTo true us into L k ++ [frm] from SS.out.trans (see_hit (u := ⟨frm, into, q⟩) rfl hin)); clear SS
              have SE' := Lib.hid (show (seeTo true us into L (k + 1)).length = p + 1 by rw [SE.out]; simp [HP.out])
              rw [SE'.out] at SK
              have n0 : posB (seeTo true us into L k) frm < 0 := by omega
              clear pp
              have zb := hb2.size
              go_wp2_with fail
              refine (specFind _ _ _ (seeTo true us into L k) frm _ hre (by omega)).mono ?_; rintro e w4 ⟨rfl, rfl⟩
              go_wp2_with (at_builtin; refine wpList_app _ rfl _ _ _ rfl w.heap.size 9 i0 _ 1 16 Try.underlying24 hi hz0 hz1 hz2 rfl (by omega) _ p _ rfl (O2.alloc _) _ 1 1 (stCell frm) rfl (RS_new (by simp)) (stCell_one _) (by unfold maxLen; omega) (by omega) (by simp; omega) ?_; intro A5 c5 w5 o5 g5 at5 b5; have B5 := Lib.hid ((hb2.alloc zb (Obj.cells #[.string frm] 9)).trans b5); clear g5 at5 b5)
              rw [← flat_one stCell, ← flat_append, ← SE.out] at o5
              go_roundw
              case rel => exact ⟨k + 1, p + 1, A5, c5, by omega, by go_num, rfl, by omega, SK, SE'.out, o5, B5.out⟩
              case measure => simp [intOf]; omega
          · have SE := Lib.hid (SS.out.trans (see_far (u := ⟨frm, into, q⟩) ha)); clear SS
            have hne := text_ne ha
            have hneb : (into.toList == cur.toList) = false := by simpa using hne
            clear ha
            go_wp2_with fail
            go_roundw
            case rel => exact ⟨k + 1, p, _, c2, by omega, by go_num, rfl, hjp, hp, by rw [Hid, SE.out]; exact HP.out, by rw [SE.out]; exact O2, hb2⟩
            case measure => simp [intOf]; omega
        · obtain rfl : n = k := by omega
          go_wp2_with fail
          go_roundw
          case rel => exact ⟨j + 1, p, A2, c2, seeTo true us cur L n, by go_num, rfl, by omega, by omega, hp, HFS.out.symm, HP, O2, hb2⟩
          case measure => simp [intOf]; omega
    · obtain rfl : m = j := by omega
      have E := Lib.hid (show reachL true us b = L by rw [HL.out]; exact found_end (by rw [← HL.out, HM.out]; exact Nat.le_refl _) (by rw [hl.out]; exact hm))
      obtain ⟨g, rfl, _, _, _, _⟩ := own_addr O (by omega)
      have hre := RS_drop1 (RS.of_own O) hm1
      obtain ⟨A9, c9, ec, hcm, _⟩ := own_slice O
      obtain rfl : c' = c9 := by injection ec
      clear ec
      have i1 : (1 : Int) ≤ m := by omega
      have i2 : ¬ (m : Int) < m := by omega
      have i3 : (m : Int) ≤ c' := by omega
      by_cases hc1 : c' = 1
      · obtain rfl : m = 1 := by omega
        subst hc1
        have RN := Lib.hid (show ∀ (A : Option Addr), RS wr 1 A 0 ((restL true us b).flatMap stCell) by
          intro A
          have : restL true us b = [] := List.drop_eq_nil_of_le (by rw [E.out, HM.out]; omega)
          rw [this]; exact RS.nil _ _ _)
        go_wp2_with fail
        go_ret
        exact ⟨_, 0, ⟨_, rfl⟩, by omega, RN.out _, hb⟩
      · have hre := Lib.hid hre
        go_wp2_with fail
        go_ret
        exact ⟨_, m - 1, ⟨_, rfl⟩, by omega, by rw [restL, E.out]; exact hre.out, hb⟩
end Go.Proofs.Ytaldlinekipblaa
