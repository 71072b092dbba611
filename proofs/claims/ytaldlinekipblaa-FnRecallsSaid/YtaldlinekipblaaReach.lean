/- The walks over uses: where a text stands in a list; what is reached. No condition. -/
import Derived.Test.YtaldlinekipblaaReachP
import Derived.Test.YtaldlinekipblaaSStr
import Derived.Test.YtaldlinekipblaaInts2
import Derived.Test.YtaldlinekipblaaOwns
namespace Go.Proofs.Ytaldlinekipblaa
open Go.ChangeShapes Go.WideShapes Go.ChangeAt Go.RowKit

def posB (l : List ByteArray) (s : ByteArray) : Int := match l.findIdx? (fun x => decide (x = s)) with | some k => k | none => -1
theorem posB_hit {l : List ByteArray} {s : ByteArray} {k : Nat} (hx : l[k]? = some s) (hb : ∀ (j : Nat) (y : ByteArray), j < k → l[j]? = some y → ¬ y = s) : posB l s = k := by
  have hk := (List.getElem?_eq_some_iff.1 hx).1
  have : l.findIdx? (fun x => decide (x = s)) = some k := by
    rw [List.findIdx?_eq_some_iff_getElem]
    refine ⟨hk, ?_, fun j hj => ?_⟩
    · have := (List.getElem?_eq_some_iff.1 hx).2
      simp [this]
    · have := hb j l[j] hj (List.getElem?_eq_getElem (by omega))
      simp [this]
  simp [posB, this]
theorem posB_none {l : List ByteArray} {s : ByteArray} (hb : s ∉ l) : posB l s = -1 := by
  have : l.findIdx? (fun x => decide (x = s)) = none := by
    rw [List.findIdx?_eq_none_iff]
    intro y hy
    have : ¬ y = s := fun e => hb (by rw [← e]; exact hy)
    simp [this]
  simp [posB, this]
theorem posB_in {l : List ByteArray} {s : ByteArray} (h : s ∈ l) : 0 ≤ posB l s := by
  unfold posB
  cases e : l.findIdx? (fun x => decide (x = s)) with
  | none => rw [List.findIdx?_eq_none_iff] at e; simpa using e s h
  | some k => simp only; omega
theorem posB_far {l : List ByteArray} {s : ByteArray} (h : ∀ (j : Nat) (y : ByteArray), l[j]? = some y → ¬ y = s) : posB l s = -1 := posB_none fun hm => by
  obtain ⟨j, hj, rfl⟩ := List.getElem_of_mem hm
  exact h j _ (List.getElem?_eq_getElem hj) rfl
theorem posB_lt {l : List ByteArray} {s : ByteArray} : posB l s < 0 ↔ s ∉ l := by
  refine ⟨fun h hm => by have := posB_in hm; omega, fun h => by rw [posB_none h]; omega⟩
theorem posB_bd (l : List ByteArray) (s : ByteArray) : -1 ≤ posB l s ∧ posB l s ≤ l.length := by
  unfold posB
  cases e : l.findIdx? (fun x => decide (x = s)) with
  | none => simp only; omega
  | some k =>
    have := (List.findIdx?_eq_some_iff_getElem.1 e).1
    simp only; omega
set_option maxHeartbeats 1000000 in
theorem implIndexOf (A : Option Addr) (n c : Nat) (l : List ByteArray) (s : ByteArray) (w : World) (hr : RS w 1 A n (l.flatMap stCell)) (hn : n ≤ 9223372036854775807) :
    Calls Try.prog 47 #[.slice A n c, .string s] w fun e w' => e = .returned (.int .i64 (posB l s)) ∧ w = w' := by
  have hl := Lib.hid (hr.flatLen stCell_len (by omega))
  go_enter Try.func47, Try.ntmps47
  go_wp2
  go_loopw [9] (fun i wr => ∃ k : Nat, k ≤ n ∧ i = .int .i64 k ∧ w = wr ∧ Hid (∀ (j : Nat) (y : ByteArray), j < k → l[j]? = some y → ¬ y = s)) (fun i _ => n - (intOf i).toNat)
  case atStart => exact ⟨0, Nat.zero_le _, rfl, rfl, fun j y h => absurd h (Nat.not_lt_zero _)⟩
  case round =>
    obtain ⟨k, hk, rfl, rfl, hno⟩ := hrel
    by_cases hlt : k < n
    · obtain ⟨g, off, rfl, y, hx, hc⟩ := hr.stAt hlt
      have i1 : (0 : Int) ≤ k := by omega
      have i2 : (k : Int) < n := by omega
      have HX := Lib.hid hx; clear hx
      by_cases hcode : y = s
      · subst hcode
        have HH := Lib.hid (posB_hit HX.out hno.out)
        go_wp2_with fail
        go_ret
        exact ⟨ret_int (by rw [HH.out]), rfl⟩
      · have HH : Hid (∀ (j : Nat) (z : ByteArray), j < k + 1 → l[j]? = some z → ¬ z = s) := fun j z hj hz => by
          rcases Nat.lt_succ_iff_lt_or_eq.1 hj with h' | rfl
          · exact hno.out j z h' hz
          · rw [HX.out] at hz; injection hz with hz; rw [← hz]; exact hcode
        have hne := text_ne hcode
        have hneb : (y.toList == s.toList) = false := by simpa using hne
        clear hcode
        go_wp2
        go_roundw
        case rel => exact ⟨k + 1, by omega, by go_num, by trivial, HH.out⟩
        case measure => simp [intOf]; omega
    · obtain rfl : n = k := by omega
      have HH := Lib.hid (posB_far (s := s) (fun j y hy => hno.out j y (by rw [← hl.out]; exact (List.getElem?_eq_some_iff.1 hy).1) hy))
      clear hno
      go_wp2_with fail
      go_ret
      exact ⟨ret_int (by rw [HH.out]), rfl⟩
set_option maxHeartbeats 1000000 in
theorem specFind (A : Option Addr) (n c : Nat) (l : List ByteArray) (s : ByteArray) (w : World) (hr : RS w 1 A n (l.flatMap stCell)) (hn : n ≤ 9223372036854775807) :
    Calls Try.prog 44 #[.slice A n c, .string s] w fun e w' => e = .returned (.int .i64 (posB l s)) ∧ w = w' := by
  have hl := Lib.hid (hr.flatLen stCell_len (by omega))
  go_enter Try.func44, Try.ntmps44
  go_wp2
  go_loopw [5] (fun i wr => ∃ k : Nat, k ≤ n ∧ i = .int .i64 k ∧ w = wr ∧ Hid (∀ (j : Nat) (y : ByteArray), j < k → l[j]? = some y → ¬ y = s)) (fun i _ => n - (intOf i).toNat)
  case atStart => exact ⟨0, Nat.zero_le _, rfl, rfl, fun j y h => absurd h (Nat.not_lt_zero _)⟩
  case round =>
    obtain ⟨k, hk, rfl, rfl, hno⟩ := hrel
    by_cases hlt : k < n
    · obtain ⟨g, off, rfl, y, hx, hc⟩ := hr.stAt hlt
      have i1 : (0 : Int) ≤ k := by omega
      have i2 : (k : Int) < n := by omega
      have HX := Lib.hid hx; clear hx
      by_cases hcode : y = s
      · subst hcode
        have HH := Lib.hid (posB_hit HX.out hno.out)
        go_wp2_with fail
        go_ret
        exact ⟨ret_int (by rw [HH.out]), rfl⟩
      · have HH : Hid (∀ (j : Nat) (z : ByteArray), j < k + 1 → l[j]? = some z → ¬ z = s) := fun j z hj hz => by
          rcases Nat.lt_succ_iff_lt_or_eq.1 hj with h' | rfl
          · exact hno.out j z h' hz
          · rw [HX.out] at hz; injection hz with hz; rw [← hz]; exact hcode
        have hne := text_ne hcode
        have hneb : (y.toList == s.toList) = false := by simpa using hne
        clear hcode
        go_wp2
        go_roundw
        case rel => exact ⟨k + 1, by omega, by go_num, by trivial, HH.out⟩
        case measure => simp [intOf]; omega
    · obtain rfl : n = k := by omega
      have HH := Lib.hid (posB_far (s := s) (fun j y hy => hno.out j y (by rw [← hl.out]; exact (List.getElem?_eq_some_iff.1 hy).1) hy))
      clear hno
      go_wp2_with fail
      go_ret
      exact ⟨ret_int (by rw [HH.out]), rfl⟩

theorem seeTo_len {up : Bool} {us : List Us} {b cur : ByteArray} {j : Nat} (h : (found up us b j)[j]? = some cur) (k : Nat) : (seeTo up us cur (found up us b j) k).length ≤ us.length + 1 := by
  have ok := seeTo_ok (found_ok up us b j) (cur := cur) (fun u hu hc => .step ((found_ok up us b j).all cur (List.mem_of_getElem? h)) hu hc) k
  have := nodup_le (m := b :: us.map (uB up)) ok.nodup (fun x hx => by rcases ok.sub x hx with e | e <;> simp [e])
  simpa using this
theorem seeTo_cur {up : Bool} {us : List Us} {cur : ByteArray} {L : List ByteArray} {j : Nat} (h : L[j]? = some cur) (k : Nat) : (seeTo up us cur L k)[j]? = some cur := by
  obtain ⟨t, e⟩ := seeTo_pre up us cur L k
  rw [← e, List.getElem?_append_left (List.getElem?_eq_some_iff.1 h).1]; exact h
theorem own_sides {v v' : Value} {q : Nat} (h : v'.ownBlock = v.ownBlock ∨ v'.ownBlock = some q) : v'.ownBlock = v.ownBlock ∨ ∀ k, v'.ownBlock = some k → q ≤ k :=
  h.imp id fun e k hk => by rw [e] at hk; injection hk with hk; omega
set_option maxRecDepth 100000 in
set_option maxHeartbeats 4000000 in
theorem implReachDown (A : Option Addr) (n c : Nat) (us : List Us) (b : ByteArray) (w : World) (hr : RS w 3 A n (us.flatMap usCell)) (hn : n ≤ 1048600) :
    Calls Try.prog 38 #[.slice A n c, .string b, .bool false] w fun e w' => ∃ A' c' v, e = .returned (.tuple #[.slice A' (reachL false us b).length c', v]) ∧ w'.ownsRow w.heap.size 9 1 (.slice A' (reachL false us b).length c') (reachL false us b).length ((reachL false us b).flatMap stCell) ∧ Below w.heap.size w w' := by
  have hl := Lib.hid (hr.flatLen usCell_len (by omega))
  obtain ⟨i0, hi, hz0, hz1, hz2⟩ := info_parts stInfo
  obtain ⟨j0, hi', hz0', hz1', hz2'⟩ := info_parts intInfo
  have ST := Lib.hid ((Owns.one (own_new w (base := w.heap.size) (e := 9) (size := 1) (n := 1) #[.string b] (Nat.le_refl _) (by unfold maxLen; omega) rfl)).cons (below_box _ (Obj.cells #[.int .i64 (-1)] 3)) (own_new (w.alloc (Obj.cells #[.string b] 9)) (base := (w.alloc (Obj.cells #[.string b] 9)).heap.size) (e := 3) (size := 1) (n := 1) #[.int .i64 (-1)] (Nat.le_refl _) (by unfold maxLen; omega) rfl) (Nat.le_refl _) (by simp))
  go_enter Try.func38, Try.ntmps38
  go_wp2
  go_loopw [8, 9, 10] (fun f by' i wr => ∃ (j m : Nat) (A' : Option Addr) (c' : Nat) (B' : Option Addr) (d' : Nat) (Q : List Value) (L : List ByteArray), i = .int .i64 j ∧ f = .slice A' m c' ∧ by' = .slice B' m d' ∧ j ≤ m ∧ m ≤ n + 1 ∧ Hid (L = found false us b j) ∧ Hid (L.length = m) ∧
      Owns wr w.heap.size wr.heap.size [⟨3, 1, .slice B' m d', m, Q⟩, ⟨9, 1, .slice A' m c', m, L.flatMap stCell⟩] ∧ Below w.heap.size w wr) (fun _ _ i _ => n + 1 - (intOf i).toNat)
  case atStart => exact ⟨0, 1, _, _, _, _, _, [b], rfl, rfl, rfl, by omega, by omega, rfl, rfl, by simpa [flat_one, stCell] using ST.out, ((Below.refl _ _).alloc (Nat.le_refl _) _).alloc (by simp) _⟩
  case round =>
    obtain ⟨j, m, A', c', B', d', Q, L, rfl, rfl, rfl, hjm, hm, HL, HM, O, hb⟩ := hrel
    clear ST
    by_cases hlt : j < m
    · obtain ⟨cur, hcur⟩ : ∃ cur, L[j]? = some cur := ⟨_, List.getElem?_eq_getElem (by rw [HM.out]; exact hlt)⟩
      have hcf : (found false us b j)[j]? = some cur := by rw [← HL.out]; exact hcur
      have HFS := Lib.hid (show found false us b (j + 1) = seeTo false us cur L n by rw [found_step hcf, ← HL.out, hl.out])
      have SL := Lib.hid (show ∀ k, (seeTo false us cur L k).length ≤ n + 1 by intro k; rw [HL.out, ← hl.out]; exact seeTo_len hcf k)
      have CU := Lib.hid (seeTo_cur (up := false) (us := us) hcur)
      clear hcur hcf
      have i1 : (0 : Int) ≤ j := by omega
      have i2 : (j : Int) < m := by omega
      go_wp2_with fail
      go_loopw [8, 9, 26] (fun f by' i wr => ∃ (k m : Nat) (A' : Option Addr) (c' : Nat) (B' : Option Addr) (d' : Nat) (Q : List Value), k ≤ n ∧ i = .int .i64 k ∧ f = .slice A' m c' ∧ by' = .slice B' m d' ∧ j < m ∧ m ≤ n + 1 ∧ Hid ((seeTo false us cur L k).length = m) ∧
          Owns wr w.heap.size wr.heap.size [⟨3, 1, .slice B' m d', m, Q⟩, ⟨9, 1, .slice A' m c', m, (seeTo false us cur L k).flatMap stCell⟩] ∧ Below w.heap.size w wr) (fun _ _ i _ => n - (intOf i).toNat)
      case atStart => exact ⟨0, m, A', c', B', d', Q, Nat.zero_le _, rfl, rfl, rfl, hlt, hm, by rw [Hid, seeTo_zero]; exact HM.out, by rw [seeTo_zero]; exact O, hb⟩
      case round =>
        obtain ⟨k, p, A2, c2, B2, d2, Q2, hk, rfl, rfl, rfl, hjp, hp, HP, O2, hb2⟩ := hrel
        clear O hb i2
        have i2 : (j : Int) < p := by omega
        by_cases hlt2 : k < n
        · obtain ⟨g, off, rfl, ⟨frm, into, q⟩, hx, h0, h1, h2⟩ := (hr.below hb2).usAt hlt2
          simp only at h0 h1 h2
          have SS := Lib.hid (seeTo_succ (up := false) (cur := cur) (f := L) hx)
          have SK := SL.out (k + 1)
          clear hx
          have XB := Lib.hid (blk_new1 wr (Obj.cells #[.string frm, .string into, .int .i64 q] 56))
          have a0 := cell_wext (blk_at XB.out (j := 0) rfl); have a1 := cell_wext (blk_at XB.out (j := 1) rfl)
          have bu := Lib.hid (below_box wr (Obj.cells #[.string frm, .string into, .int .i64 q] 56))
          go_wp2_with fail
          refine wp_region_ext (by kernel_rfl) (by kernel_rfl) ?_
          repeat (go_big_quiet_step (fail))
          refine wpQuiet_nil ?_
          intro _ hw'; obtain ⟨nq, hw''⟩ := hw'; subst hw''
          have bq := Lib.hid (below_then bu.out (below_wext _ nq))
          clear a0 a1 h0 h1 h2 XB bu
          generalize wext (wr.alloc (Obj.cells #[.string frm, .string into, .int .i64 q] 56)) nq = wq at *
          have O3 := O2.below bq.out
          have O3 := O3.top
          have b3 := below_app hb2 bq.out hb2.size
          clear O2 hb2 bq
          have of := O3.get (r := ⟨9, 1, .slice A2 p c2, p, (seeTo false us cur L k).flatMap stCell⟩) (by simp)
          have oi := O3.get (r := ⟨3, 1, .slice B2 p d2, p, Q2⟩) (by simp)
          have hre := RS.of_own of
          obtain ⟨g2, off2, rfl, y, hy, hc⟩ := hre.stAt hjp
          rw [CU.out k] at hy
          obtain rfl := Option.some.inj hy
          clear hy
          by_cases ha : frm = cur
          · subst ha
            by_cases hin : into ∈ seeTo false us frm L k
            · have pp := posB_in hin
              have SE := Lib.hid (SS.out.trans (see_old (u := ⟨frm, into, q⟩) hin)); clear SS
              have n0 : ¬ posB (seeTo false us frm L k) into < 0 := by omega
              go_wp2_with fail
              refine (implIndexOf _ _ _ (seeTo false us frm L k) into _ hre (by omega)).mono ?_; rintro e w4 ⟨rfl, rfl⟩
              go_wp2_with fail
              go_roundw
              case rel => exact ⟨k + 1, p, _, c2, B2, d2, Q2, by omega, by go_num, rfl, rfl, hjp, hp, by rw [Hid, SE.out]; exact HP.out, by rw [SE.out]; exact O3, b3⟩
              case measure => simp [intOf]; omega
            · have pp := posB_none hin
              have SE := Lib.hid (show seeTo false us frm L (k + 1) = seeTo false us frm L k ++ [into] from SS.out.trans (see_hit (u := ⟨frm, into, q⟩) rfl hin)); clear SS
              have SE' := Lib.hid (show (seeTo false us frm L (k + 1)).length = p + 1 by rw [SE.out]; simp [HP.out])
              rw [SE'.out] at SK
              have n0 : posB (seeTo false us frm L k) into < 0 := by omega
              clear pp
              have zb := b3.size
              go_wp2_with fail
              refine (implIndexOf _ _ _ (seeTo false us frm L k) into _ hre (by omega)).mono ?_; rintro e w4 ⟨rfl, rfl⟩
              go_wp2_with (first
                | (at_builtin; refine wpList_app _ rfl _ _ _ rfl w.heap.size 9 i0 _ 1 16 Try.underlying24 hi hz0 hz1 hz2 rfl (by omega) _ p _ rfl (of.alloc _) _ 1 1 (stCell into) rfl (RS_new (by simp)) (stCell_one _) (by unfold maxLen; omega) (by omega) (by simp; omega) ?_; intro A5 c5 w5 o5 g5 at5 b5; have O5 := (O3.below (below_box wq (Obj.cells #[.string into] 9))).turn (i := 1) rfl g5 o5 (own_sides at5); have B5 := Lib.hid ((b3.alloc zb (Obj.cells #[.string into] 9)).trans b5); have oi5 := O5.get (r := ⟨3, 1, .slice B2 p d2, p, Q2⟩) (by simp); have zb5 := B5.out.size; clear g5 o5 at5 b5)
                | (at_builtin; refine wpList_app _ rfl _ _ _ rfl w.heap.size 3 j0 _ 1 8 Try.underlying58 hi' hz0' hz1' hz2' rfl (by omega) _ p _ rfl (oi5.alloc _) _ 1 1 [.int .i64 j] rfl (RS_new (by simp)) (by simp [Value.oneCell']) (by unfold maxLen; omega) (by omega) (by simp; omega) ?_; intro A6 c6 w6 o6 g6 at6 b6; have O6 := (O5.below (below_box w5 (Obj.cells #[.int .i64 j] 3))).turn (i := 0) rfl g6 o6 (own_sides at6); have B6 := Lib.hid ((B5.out.alloc zb5 (Obj.cells #[.int .i64 j] 3)).trans b6); clear g6 o6 at6 b6))
              simp only [List.set_cons_zero, List.set_cons_succ] at O6
              rw [← flat_one stCell, ← flat_append, ← SE.out] at O6
              go_roundw
              case rel => exact ⟨k + 1, p + 1, A5, c5, A6, c6, _, by omega, by go_num, rfl, rfl, by omega, SK, SE'.out, O6, B6.out⟩
              case measure => simp [intOf]; omega
          · have SE := Lib.hid (SS.out.trans (see_far (u := ⟨frm, into, q⟩) ha)); clear SS
            have hne := text_ne ha
            have hneb : (frm.toList == cur.toList) = false := by simpa using hne
            clear ha
            go_wp2_with fail
            go_roundw
            case rel => exact ⟨k + 1, p, _, c2, B2, d2, Q2, by omega, by go_num, rfl, rfl, hjp, hp, by rw [Hid, SE.out]; exact HP.out, by rw [SE.out]; exact O3, b3⟩
            case measure => simp [intOf]; omega
        · obtain rfl : n = k := by omega
          go_wp2_with fail
          go_roundw
          case rel => exact ⟨j + 1, p, A2, c2, B2, d2, Q2, seeTo false us cur L n, by go_num, rfl, rfl, by omega, hp, HFS.out.symm, HP, O2, hb2⟩
          case measure => simp [intOf]; omega
    · obtain rfl : m = j := by omega
      have E := Lib.hid (show reachL false us b = L by rw [HL.out]; exact found_end (by rw [← HL.out, HM.out]; exact Nat.le_refl _) (by rw [hl.out]; exact hm))
      have of := O.get (r := ⟨9, 1, .slice A' m c', m, L.flatMap stCell⟩) (by simp)
      have i2 : ¬ (m : Int) < m := by omega
      go_wp2_with fail
      go_ret2
      rw [E.out, HM.out]
      exact ⟨A', c', ⟨_, rfl⟩, of, hb⟩
set_option maxRecDepth 100000 in
set_option maxHeartbeats 4000000 in
theorem implReachUp (A : Option Addr) (n c : Nat) (us : List Us) (b : ByteArray) (w : World) (hr : RS w 3 A n (us.flatMap usCell)) (hn : n ≤ 1048600) :
    Calls Try.prog 38 #[.slice A n c, .string b, .bool true] w fun e w' => ∃ A' c' v, e = .returned (.tuple #[.slice A' (reachL true us b).length c', v]) ∧ w'.ownsRow w.heap.size 9 1 (.slice A' (reachL true us b).length c') (reachL true us b).length ((reachL true us b).flatMap stCell) ∧ Below w.heap.size w w' := by
  have hl := Lib.hid (hr.flatLen usCell_len (by omega))
  obtain ⟨i0, hi, hz0, hz1, hz2⟩ := info_parts stInfo
  obtain ⟨j0, hi', hz0', hz1', hz2'⟩ := info_parts intInfo
  have ST := Lib.hid ((Owns.one (own_new w (base := w.heap.size) (e := 9) (size := 1) (n := 1) #[.string b] (Nat.le_refl _) (by unfold maxLen; omega) rfl)).cons (below_box _ (Obj.cells #[.int .i64 (-1)] 3)) (own_new (w.alloc (Obj.cells #[.string b] 9)) (base := (w.alloc (Obj.cells #[.string b] 9)).heap.size) (e := 3) (size := 1) (n := 1) #[.int .i64 (-1)] (Nat.le_refl _) (by unfold maxLen; omega) rfl) (Nat.le_refl _) (by simp))
  go_enter Try.func38, Try.ntmps38
  go_wp2
  go_loopw [8, 9, 10] (fun f by' i wr => ∃ (j m : Nat) (A' : Option Addr) (c' : Nat) (B' : Option Addr) (d' : Nat) (Q : List Value) (L : List ByteArray), i = .int .i64 j ∧ f = .slice A' m c' ∧ by' = .slice B' m d' ∧ j ≤ m ∧ m ≤ n + 1 ∧ Hid (L = found true us b j) ∧ Hid (L.length = m) ∧
      Owns wr w.heap.size wr.heap.size [⟨3, 1, .slice B' m d', m, Q⟩, ⟨9, 1, .slice A' m c', m, L.flatMap stCell⟩] ∧ Below w.heap.size w wr) (fun _ _ i _ => n + 1 - (intOf i).toNat)
  case atStart => exact ⟨0, 1, _, _, _, _, _, [b], rfl, rfl, rfl, by omega, by omega, rfl, rfl, by simpa [flat_one, stCell] using ST.out, ((Below.refl _ _).alloc (Nat.le_refl _) _).alloc (by simp) _⟩
  case round =>
    obtain ⟨j, m, A', c', B', d', Q, L, rfl, rfl, rfl, hjm, hm, HL, HM, O, hb⟩ := hrel
    clear ST
    by_cases hlt : j < m
    · obtain ⟨cur, hcur⟩ : ∃ cur, L[j]? = some cur := ⟨_, List.getElem?_eq_getElem (by rw [HM.out]; exact hlt)⟩
      have hcf : (found true us b j)[j]? = some cur := by rw [← HL.out]; exact hcur
      have HFS := Lib.hid (show found true us b (j + 1) = seeTo true us cur L n by rw [found_step hcf, ← HL.out, hl.out])
      have SL := Lib.hid (show ∀ k, (seeTo true us cur L k).length ≤ n + 1 by intro k; rw [HL.out, ← hl.out]; exact seeTo_len hcf k)
      have CU := Lib.hid (seeTo_cur (up := true) (us := us) hcur)
      clear hcur hcf
      have i1 : (0 : Int) ≤ j := by omega
      have i2 : (j : Int) < m := by omega
      go_wp2_with fail
      go_loopw [8, 9, 26] (fun f by' i wr => ∃ (k m : Nat) (A' : Option Addr) (c' : Nat) (B' : Option Addr) (d' : Nat) (Q : List Value), k ≤ n ∧ i = .int .i64 k ∧ f = .slice A' m c' ∧ by' = .slice B' m d' ∧ j < m ∧ m ≤ n + 1 ∧ Hid ((seeTo true us cur L k).length = m) ∧
          Owns wr w.heap.size wr.heap.size [⟨3, 1, .slice B' m d', m, Q⟩, ⟨9, 1, .slice A' m c', m, (seeTo true us cur L k).flatMap stCell⟩] ∧ Below w.heap.size w wr) (fun _ _ i _ => n - (intOf i).toNat)
      case atStart => exact ⟨0, m, A', c', B', d', Q, Nat.zero_le _, rfl, rfl, rfl, hlt, hm, by rw [Hid, seeTo_zero]; exact HM.out, by rw [seeTo_zero]; exact O, hb⟩
      case round =>
        obtain ⟨k, p, A2, c2, B2, d2, Q2, hk, rfl, rfl, rfl, hjp, hp, HP, O2, hb2⟩ := hrel
        clear O hb i2
        have i2 : (j : Int) < p := by omega
        by_cases hlt2 : k < n
        · obtain ⟨g, off, rfl, ⟨frm, into, q⟩, hx, h0, h1, h2⟩ := (hr.below hb2).usAt hlt2
          simp only at h0 h1 h2
          have SS := Lib.hid (seeTo_succ (up := true) (cur := cur) (f := L) hx)
          have SK := SL.out (k + 1)
          clear hx
          have XB := Lib.hid (blk_new1 wr (Obj.cells #[.string frm, .string into, .int .i64 q] 56))
          have a0 := cell_wext (blk_at XB.out (j := 0) rfl); have a1 := cell_wext (blk_at XB.out (j := 1) rfl)
          have bu := Lib.hid (below_box wr (Obj.cells #[.string frm, .string into, .int .i64 q] 56))
          go_wp2_with fail
          refine wp_region_ext (by kernel_rfl) (by kernel_rfl) ?_
          repeat (go_big_quiet_step (fail))
          refine wpQuiet_nil ?_
          intro _ hw'; obtain ⟨nq, hw''⟩ := hw'; subst hw''
          have bq := Lib.hid (below_then bu.out (below_wext _ nq))
          clear a0 a1 h0 h1 h2 XB bu
          generalize wext (wr.alloc (Obj.cells #[.string frm, .string into, .int .i64 q] 56)) nq = wq at *
          have O3 := O2.below bq.out
          have O3 := O3.top
          have b3 := below_app hb2 bq.out hb2.size
          clear O2 hb2 bq
          have of := O3.get (r := ⟨9, 1, .slice A2 p c2, p, (seeTo true us cur L k).flatMap stCell⟩) (by simp)
          have oi := O3.get (r := ⟨3, 1, .slice B2 p d2, p, Q2⟩) (by simp)
          have hre := RS.of_own of
          obtain ⟨g2, off2, rfl, y, hy, hc⟩ := hre.stAt hjp
          rw [CU.out k] at hy
          obtain rfl := Option.some.inj hy
          clear hy
          by_cases ha : into = cur
          · subst ha
            by_cases hin : frm ∈ seeTo true us into L k
            · have pp := posB_in hin
              have SE := Lib.hid (SS.out.trans (see_old (u := ⟨frm, into, q⟩) hin)); clear SS
              have n0 : ¬ posB (seeTo true us into L k) frm < 0 := by omega
              go_wp2_with fail
              refine (implIndexOf _ _ _ (seeTo true us into L k) frm _ hre (by omega)).mono ?_; rintro e w4 ⟨rfl, rfl⟩
              go_wp2_with fail
              go_roundw
              case rel => exact ⟨k + 1, p, _, c2, B2, d2, Q2, by omega, by go_num, rfl, rfl, hjp, hp, by rw [Hid, SE.out]; exact HP.out, by rw [SE.out]; exact O3, b3⟩
              case measure => simp [intOf]; omega
            · have pp := posB_none hin
              have SE := Lib.hid (show seeTo true us into L (k + 1) = seeTo true us into L k ++ [frm] from SS.out.trans (see_hit (u := ⟨frm, into, q⟩) rfl hin)); clear SS
              have SE' := Lib.hid (show (seeTo true us into L (k + 1)).length = p + 1 by rw [SE.out]; simp [HP.out])
              rw [SE'.out] at SK
              have n0 : posB (seeTo true us into L k) frm < 0 := by omega
              clear pp
              have zb := b3.size
              go_wp2_with fail
              refine (implIndexOf _ _ _ (seeTo true us into L k) frm _ hre (by omega)).mono ?_; rintro e w4 ⟨rfl, rfl⟩
              go_wp2_with (first
                | (at_builtin; refine wpList_app _ rfl _ _ _ rfl w.heap.size 9 i0 _ 1 16 Try.underlying24 hi hz0 hz1 hz2 rfl (by omega) _ p _ rfl (of.alloc _) _ 1 1 (stCell frm) rfl (RS_new (by simp)) (stCell_one _) (by unfold maxLen; omega) (by omega) (by simp; omega) ?_; intro A5 c5 w5 o5 g5 at5 b5; have O5 := (O3.below (below_box wq (Obj.cells #[.string frm] 9))).turn (i := 1) rfl g5 o5 (own_sides at5); have B5 := Lib.hid ((b3.alloc zb (Obj.cells #[.string frm] 9)).trans b5); have oi5 := O5.get (r := ⟨3, 1, .slice B2 p d2, p, Q2⟩) (by simp); have zb5 := B5.out.size; clear g5 o5 at5 b5)
                | (at_builtin; refine wpList_app _ rfl _ _ _ rfl w.heap.size 3 j0 _ 1 8 Try.underlying58 hi' hz0' hz1' hz2' rfl (by omega) _ p _ rfl (oi5.alloc _) _ 1 1 [.int .i64 j] rfl (RS_new (by simp)) (by simp [Value.oneCell']) (by unfold maxLen; omega) (by omega) (by simp; omega) ?_; intro A6 c6 w6 o6 g6 at6 b6; have O6 := (O5.below (below_box w5 (Obj.cells #[.int .i64 j] 3))).turn (i := 0) rfl g6 o6 (own_sides at6); have B6 := Lib.hid ((B5.out.alloc zb5 (Obj.cells #[.int .i64 j] 3)).trans b6); clear g6 o6 at6 b6))
              simp only [List.set_cons_zero, List.set_cons_succ] at O6
              rw [← flat_one stCell, ← flat_append, ← SE.out] at O6
              go_roundw
              case rel => exact ⟨k + 1, p + 1, A5, c5, A6, c6, _, by omega, by go_num, rfl, rfl, by omega, SK, SE'.out, O6, B6.out⟩
              case measure => simp [intOf]; omega
          · have SE := Lib.hid (SS.out.trans (see_far (u := ⟨frm, into, q⟩) ha)); clear SS
            have hne := text_ne ha
            have hneb : (into.toList == cur.toList) = false := by simpa using hne
            clear ha
            go_wp2_with fail
            go_roundw
            case rel => exact ⟨k + 1, p, _, c2, B2, d2, Q2, by omega, by go_num, rfl, rfl, hjp, hp, by rw [Hid, SE.out]; exact HP.out, by rw [SE.out]; exact O3, b3⟩
            case measure => simp [intOf]; omega
        · obtain rfl : n = k := by omega
          go_wp2_with fail
          go_roundw
          case rel => exact ⟨j + 1, p, A2, c2, B2, d2, Q2, seeTo true us cur L n, by go_num, rfl, rfl, by omega, hp, HFS.out.symm, HP, O2, hb2⟩
          case measure => simp [intOf]; omega
    · obtain rfl : m = j := by omega
      have E := Lib.hid (show reachL true us b = L by rw [HL.out]; exact found_end (by rw [← HL.out, HM.out]; exact Nat.le_refl _) (by rw [hl.out]; exact hm))
      have of := O.get (r := ⟨9, 1, .slice A' m c', m, L.flatMap stCell⟩) (by simp)
      have i2 : ¬ (m : Int) < m := by omega
      go_wp2_with fail
      go_ret2
      rw [E.out, HM.out]
      exact ⟨A', c', ⟨_, rfl⟩, of, hb⟩
end Go.Proofs.Ytaldlinekipblaa
