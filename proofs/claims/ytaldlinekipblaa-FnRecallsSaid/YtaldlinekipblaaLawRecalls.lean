/- FnRecalls returns true for all arguments, and leaves them as they were. No condition. -/
import Derived.Test.YtaldlinekipblaaSuspects
import Derived.Test.YtaldlinekipblaaDrawUses
import Derived.Test.YtaldlinekipblaaDrawOpen
namespace Go.Proofs.Ytaldlinekipblaa.fnRecalls
open Go.ChangeShapes Go.WideShapes Go.ChangeAt Go.RowKit

/-! ### the plain law -/
theorem names_code : ∀ s, s ∈ bNames ∨ s ∈ cNames → isCode s = true := by
  have h : (bNames ++ cNames).all isCode = true := by kernel_rfl
  intro s hs
  exact List.all_eq_true.1 h s (List.mem_append.2 hs)
theorem ships_drawn {sh : List Sh} (h : ∀ x ∈ sh, shShort x) (hl : sh.length ≤ 24) : areShips sh = true := by
  rw [ships_good fun k x hx => ?_]
  · simpa using hl
  · have := h x (List.mem_of_getElem? hx)
    simp [shipOk, names_code _ (.inl this.1), names_code _ (.inr this.2)]
/-- Whether a batch went into what was shipped. -/
def frm (us : List Us) (b : ByteArray) (x : Sh) : Bool := decide (x.batch = b) || hasB b (traceL true us x.batch)
theorem frm_iff {us : List Us} (h : areUses us = true) {b : ByteArray} {x : Sh} : frm us b x = true ↔ x.batch ∈ reachL false us b := by
  rw [reach_turn, reach_rest]
  simp only [frm, Bool.or_eq_true, decide_eq_true_eq, hasB_iff, traceL, if_pos h, sortO_mem, List.mem_cons]
  exact ⟨fun h => h.imp Eq.symm id, fun h => h.imp Eq.symm id⟩
theorem recall_has {us : List Us} {sh : List Sh} (h : areUses us = true) (h2 : areShips sh = true) {b : ByteArray} {k : Nat} {x : Sh} (hx : sh[k]? = some x) (hf : frm us b x = true) : hasB x.cust (recallL us sh b) = true := by
  rw [hasB_iff, recall_yes h h2, sortO_mem, custs_mem]
  exact ⟨x, List.mem_of_getElem? hx, (frm_iff h).1 hf, rfl⟩
def foundTo (us : List Us) (sh : List Sh) (b r : ByteArray) (k : Nat) : Bool := (sh.take k).any fun x => decide (x.cust = r) && frm us b x
theorem foundTo_zero (us : List Us) (sh : List Sh) (b r : ByteArray) : foundTo us sh b r 0 = false := by simp [foundTo]
theorem foundTo_succ {us : List Us} {sh : List Sh} {b r : ByteArray} {k : Nat} {x : Sh} (h : sh[k]? = some x) : foundTo us sh b r (k + 1) = (foundTo us sh b r k || (decide (x.cust = r) && frm us b x)) := by
  obtain ⟨hk, rfl⟩ := List.getElem?_eq_some_iff.1 h
  unfold foundTo
  rw [List.take_succ_eq_append_getElem hk, List.any_append]; simp
theorem foundTo_end {us : List Us} {sh : List Sh} (h : areUses us = true) {b r : ByteArray} {n : Nat} (hn : sh.length = n) (hr : r ∈ recallL us sh b) : foundTo us sh b r n = true := by
  obtain ⟨s, hs, h1, h2⟩ := recall_mem hr
  unfold foundTo
  rw [List.take_of_length_le (by omega), List.any_eq_true]
  exact ⟨s, hs, by simp [h2, (frm_iff h).2 h1]⟩
theorem susp_has {us : List Us} {sh : List Sh} {cs : List ByteArray} (h : suspOk us sh cs = true) (b : ByteArray) : hasB b (suspL us sh cs) = suspect us sh cs b := by
  have h0 : 1 ≤ cs.length := by
    simp only [suspOk, Bool.and_eq_true, decide_eq_true_eq] at h; exact h.2.2.1
  rw [Bool.eq_iff_iff, hasB_iff, susp_yes h, List.mem_filter, sortO_mem]
  exact ⟨fun h => h.2, fun h => ⟨cand_sub (susp_cand h0 h), h⟩⟩
theorem below_keepS {w w' : World} {A : Option Addr} {n : Nat} {l : List Sh} (h : RS w 2 A n (l.flatMap shCell)) (hb : Below w.heap.size w w') : RS w' 2 A n (l.flatMap shCell) := h.below hb

set_option maxHeartbeats 1000000 in
theorem hasText_any (A : Option Addr) (n c : Nat) (l : List ByteArray) (s : ByteArray) (w : World) (hr : RS w 1 A n (l.flatMap stCell)) (hn : n ≤ 9223372036854775807) :
    Calls Try.prog 32 #[.slice A n c, .string s] w fun e w' => e = .returned (.bool (hasB s l)) ∧ w = w' := by
  have hl := Lib.hid (hr.flatLen stCell_len (by omega))
  go_enter Try.func32, Try.ntmps32
  go_wp2
  go_loopw [5] (fun i wr => ∃ k : Nat, k ≤ n ∧ i = .int .i64 k ∧ w = wr ∧ Hid (∀ (j : Nat) (y : ByteArray), j < k → l[j]? = some y → ¬ y = s)) (fun i _ => n - (intOf i).toNat)
  case atStart => exact ⟨0, Nat.zero_le _, rfl, rfl, fun j y h => absurd h (Nat.not_lt_zero _)⟩
  case round =>
    obtain ⟨k, hk, rfl, rfl, hno⟩ := hrel
    by_cases hlt : k < n
    · obtain ⟨g, off, rfl, y, hx, hc⟩ := hr.stAt hlt
      have i1 : (0 : Int) ≤ k := by omega
      have i2 : (k : Int) < n := by omega
      have HX := Lib.hid hx; clear hx
      by_cases hcode : y = s
      · subst hcode
        have HH := Lib.hid (hasB_iff.2 (List.mem_of_getElem? HX.out))
        go_wp2_with fail
        go_ret
        exact ⟨ret_bool HH.out.symm, rfl⟩
      · have HH : Hid (∀ (j : Nat) (z : ByteArray), j < k + 1 → l[j]? = some z → ¬ z = s) := fun j z hj hz => by
          rcases Nat.lt_succ_iff_lt_or_eq.1 hj with h' | rfl
          · exact hno.out j z h' hz
          · rw [HX.out] at hz; injection hz with hz; rw [← hz]; exact hcode
        have hne := text_ne hcode
        have hneb : (y.toList == s.toList) = false := by simpa using hne
        clear hcode
        go_wp2
        go_roundw
        case rel => exact ⟨k + 1, by omega, by go_num, by trivial, HH.out⟩
        case measure => simp [intOf]; omega
    · obtain rfl : n = k := by omega
      have HH := Lib.hid (hasB_no.2 (show s ∉ l from fun hm => by
        obtain ⟨j, hj, rfl⟩ := List.getElem_of_mem hm
        exact hno.out j _ (by rw [← hl.out]; exact hj) (List.getElem?_eq_getElem hj) rfl))
      clear hno
      go_wp2_with fail
      go_ret
      exact ⟨ret_bool HH.out.symm, rfl⟩

set_option maxRecDepth 100000 in
set_option maxHeartbeats 8000000 in
theorem walk (w : World) (A : Option Addr) (n c : Nat) (bs : List Int) (hr : RS w 1 A n (byteCells bs)) (hn : n ≤ 9223372036854775807) (hok : ∀ y ∈ bs, 0 ≤ y ∧ y < 256) :
    Calls Try.prog 7 #[.slice A n c] w fun e w' => e = .returned (.bool true) ∧ Below w.heap.size w w' := by
  by_cases hbig : 1048576 < n
  · go_enter Try.func7, Try.ntmps7
    go_wp2_with (go_at_call 29; refine (big_any _ _ _ _ hn).mono ?_; rw [decide_eq_true hbig]; rintro e w' ⟨rfl, rfl⟩)
    go_ret
    exact ⟨rfl, Below.refl _ _⟩
  · go_enter Try.func7, Try.ntmps7
    go_wp2_with fail
    refine (big_any _ _ _ _ hn).mono ?_; rw [decide_eq_false hbig]; rintro e w' ⟨rfl, rfl⟩
    go_wp2_with fail
    refine (DrawSuspectsOf_any _ _ _ _ _ hr hok (by omega)).mono ?_; rintro e w1 ⟨A1, n1, c1, us, A2, n2, c2, sh, A3, n3, c3, cs, rfl, ru, hn1, hus, rs, hn2, hsh, rc, hn3, b1⟩
    have hlu := Lib.hid (ru.flatLen usCell_len (by omega))
    have hls := Lib.hid (rs.flatLen shCell_len (by omega))
    have hlc := Lib.hid (rc.flatLen stCell_len (by omega))
    have US : Hid (usSmall us) := fun u hu => by have := hus u hu; unfold usShort at this; omega
    have SS : Hid (shsSmall sh) := fun u hu => by
      have := hsh u hu
      have h1 := bNames_short _ this.1; have h2 := cNames_short _ this.2; omega
    have AS := Lib.hid (ships_drawn hsh (by rw [hls.out]; omega))
    clear hus hsh
    have SQ := implSuspectsOf A1 n1 c1 us A2 n2 c2 sh A3 n3 c3 cs w1 ru (by omega) rs (by omega) rc (by omega) US.out SS.out
    obtain ⟨Q, hQ⟩ : ∃ Q, suspL us sh cs = Q := ⟨_, rfl⟩
    have QL := susp_len us sh cs
    obtain ⟨qn, hqn⟩ : ∃ q, Q.length = q := ⟨_, rfl⟩
    rw [hQ] at SQ QL
    rw [hqn] at SQ QL
    go_wp2_with fail
    refine SQ.mono ?_; rintro e w2 ⟨A4, c4, rfl, o4, hb2⟩
    clear SQ
    have rq := RS.of_own o4
    have B2 := Lib.hid (below_then b1 hb2)
    have ru := ru.below hb2; have rs := rs.below hb2; have rc := rc.below hb2
    clear o4 hb2 b1
    cases h : areUses us
    · have E := Lib.hid (susp_no (susp_uses (sh := sh) (cs := cs) h))
      have q0 : qn = 0 := by rw [← hqn, ← hQ, E.out]; rfl
      subst q0
      have H := Lib.hid h; clear h
      go_wp2_with fail
      refine (specAreUses _ _ _ us _ ru (by omega) US.out).mono ?_; rw [H.out]; rintro e w3 ⟨rfl, hb3⟩
      go_wp2_with fail
      go_ret
      exact ⟨rfl, below_app B2.out hb3 B2.out.size⟩
    · by_cases h0 : n3 = 0
      · have E := Lib.hid (susp_no (susp_size (us := us) (sh := sh) (cs := cs) (by rw [hlc.out]; omega)))
        have q0 : qn = 0 := by rw [← hqn, ← hQ, E.out]; rfl
        subst q0 h0
        have H := Lib.hid h; clear h
        go_wp2_with fail
        refine (specAreUses _ _ _ us _ ru (by omega) US.out).mono ?_; rw [H.out]; rintro e w3 ⟨rfl, hb3⟩
        go_wp2_with fail
        go_ret
        exact ⟨rfl, below_app B2.out hb3 B2.out.size⟩
      · have SO := susp_ok h AS.out (show 1 ≤ cs.length ∧ cs.length ≤ 24 by rw [hlc.out]; omega)
        have SH := Lib.hid (susp_has SO)
        rw [hQ] at SH
        have H := Lib.hid h; clear h hQ hqn
        have p1 : ¬ (n3 : Int) = 0 := by omega
        have p2 : ((n3 : Int) == 0) = false := by simp; omega
        go_wp2_with fail
        refine (specAreUses _ _ _ us _ ru (by omega) US.out).mono ?_; rw [H.out]; rintro e w3 ⟨rfl, hb3⟩
        have B3 := Lib.hid (below_app B2.out hb3 B2.out.size)
        have ru := ru.below hb3; have rs := rs.below hb3; have rc := rc.below hb3; have rq := rq.below hb3
        clear hb3
        have NM : RS (w3.alloc (Obj.cells #[.string ⟨#[66, 49]⟩, .string ⟨#[66, 50]⟩, .string ⟨#[66, 51]⟩, .string ⟨#[66, 52]⟩, .string ⟨#[66, 53]⟩, .string ⟨#[66, 54]⟩] 9)) 1 (some ⟨w3.heap.size, 0, none⟩) 6 (bNames.flatMap stCell) := RS_new (by simp)
        have ru := ru.alloc (Obj.cells #[.string ⟨#[66, 49]⟩, .string ⟨#[66, 50]⟩, .string ⟨#[66, 51]⟩, .string ⟨#[66, 52]⟩, .string ⟨#[66, 53]⟩, .string ⟨#[66, 54]⟩] 9)
        have rs := rs.alloc (Obj.cells #[.string ⟨#[66, 49]⟩, .string ⟨#[66, 50]⟩, .string ⟨#[66, 51]⟩, .string ⟨#[66, 52]⟩, .string ⟨#[66, 53]⟩, .string ⟨#[66, 54]⟩] 9)
        have rc := rc.alloc (Obj.cells #[.string ⟨#[66, 49]⟩, .string ⟨#[66, 50]⟩, .string ⟨#[66, 51]⟩, .string ⟨#[66, 52]⟩, .string ⟨#[66, 53]⟩, .string ⟨#[66, 54]⟩] 9)
        have rq := rq.alloc (Obj.cells #[.string ⟨#[66, 49]⟩, .string ⟨#[66, 50]⟩, .string ⟨#[66, 51]⟩, .string ⟨#[66, 52]⟩, .string ⟨#[66, 53]⟩, .string ⟨#[66, 54]⟩] 9)
        have B4 := Lib.hid (B3.out.alloc B3.out.size (Obj.cells #[.string ⟨#[66, 49]⟩, .string ⟨#[66, 50]⟩, .string ⟨#[66, 51]⟩, .string ⟨#[66, 52]⟩, .string ⟨#[66, 53]⟩, .string ⟨#[66, 54]⟩] 9))
        go_wp2_with fail
        generalize w3.alloc (Obj.cells #[.string ⟨#[66, 49]⟩, .string ⟨#[66, 50]⟩, .string ⟨#[66, 51]⟩, .string ⟨#[66, 52]⟩, .string ⟨#[66, 53]⟩, .string ⟨#[66, 54]⟩] 9) = w4 at *
        go_loopw [8] (fun i wr => ∃ k : Nat, k ≤ 6 ∧ i = .int .i64 k ∧ Below w4.heap.size w4 wr) (fun i _ => 6 - (intOf i).toNat)
        case atStart => exact ⟨0, Nat.zero_le _, rfl, Below.refl _ _⟩
        case round =>
          obtain ⟨k, hk, rfl, hb⟩ := hrel
          have zb := hb.size
          by_cases hlt : k < 6
          · obtain ⟨gb, ob, eb, b, hxb, cb⟩ := (NM.below hb).stAt hlt
            obtain ⟨rfl, rfl⟩ : w3.heap.size = gb ∧ 0 = ob := by simpa using eb
            rw [Nat.zero_add] at cb
            clear eb hxb
            have RL := recall_len us sh b
            rw [hls.out] at RL
            have RC := implRecallOf A1 n1 c1 us A2 n2 c2 sh b wr (ru.below hb) (by omega) (rs.below hb) (by omega) US.out SS.out
            have HE := Lib.hid (hasAll_end us sh cs b hlc.out)
            have RH := Lib.hid (fun (j : Nat) (x : Sh) (hx : sh[j]? = some x) => recall_has H.out AS.out (b := b) hx)
            have FE := Lib.hid (fun (r : ByteArray) (hm : r ∈ recallL us sh b) => foundTo_end H.out (b := b) hls.out hm)
            obtain ⟨R, hR⟩ : ∃ R, recallL us sh b = R := ⟨_, rfl⟩
            obtain ⟨rn, hrn⟩ : ∃ q, R.length = q := ⟨_, rfl⟩
            rw [hR] at RC RL HE RH FE
            rw [hrn] at RC RL
            have i1 : (0 : Int) ≤ k := by omega
            have i2 : (k : Int) < 6 := by omega
            go_wp2_with fail
            refine RC.mono ?_; rintro e w7 ⟨A7, c7, rfl, o7, hb7⟩
            clear RC
            have B7 := Lib.hid (below_app hb hb7 zb)
            have r7 := RS.of_own o7
            have cb := cell_keep hb7 cb
            have ru7 := ru.below B7.out; have rs7 := rs.below B7.out; have rc7 := rc.below B7.out; have rq7 := rq.below B7.out
            have RN := Lib.hid hrn
            clear o7 hb7 hR hrn hb zb
            go_wp2_with fail
            go_loopw [10, 11] (fun o i wr => ∃ j : Nat, j ≤ n3 ∧ i = .int .i64 j ∧ o = .bool (hasAll R cs j) ∧ w7 = wr) (fun _ i _ => n3 - (intOf i).toNat)
            case atStart => exact ⟨0, Nat.zero_le _, rfl, by rw [hasAll_zero], rfl⟩
            case round =>
              obtain ⟨j, hj, rfl, rfl, rfl⟩ := hrel
              by_cases hltc : j < n3
              · obtain ⟨g3, off3, rfl, cx, hcx, hcc⟩ := rc7.stAt hltc
                have HS := Lib.hid (hasAll_succ (R := R) hcx)
                clear hcx
                have j1 : (0 : Int) ≤ j := by omega
                have j2 : (j : Int) < n3 := by omega
                cases ha : hasAll R cs j
                · rw [ha, Bool.false_and] at HS
                  go_wp2_with fail
                  go_roundw
                  case rel => exact ⟨j + 1, by omega, by go_num, by rw [HS.out], by trivial⟩
                  case measure => simp [intOf]; omega
                · rw [ha, Bool.true_and] at HS
                  go_wp2_with fail
                  refine (hasText_any _ _ _ R cx _ r7 (by omega)).mono ?_; rintro e w8 ⟨rfl, rfl⟩
                  go_wp2_with fail
                  go_roundw
                  case rel => exact ⟨j + 1, by omega, by go_num, by rw [HS.out], by trivial⟩
                  case measure => simp [intOf]; omega
              · obtain rfl : n3 = j := by omega
                rw [HE.out]
                have SB := Lib.hid (SH.out b)
                obtain ⟨sv, hsv⟩ : ∃ s, suspect us sh cs b = s := ⟨_, rfl⟩
                rw [hsv] at SB
                rw [hsv]
                clear hsv
                have nj : ¬ (n3 : Int) < n3 := by omega
                go_wp2_with fail
                refine (hasText_any _ _ _ Q b _ rq7 (by omega)).mono ?_; rw [SB.out]; rintro e w8 ⟨rfl, rfl⟩
                have sne : (sv != sv) = false := by cases sv <;> rfl
                go_wp2_with fail
                go_loopw [12] (fun i wr => ∃ j : Nat, j ≤ n2 ∧ i = .int .i64 j ∧ Below w7.heap.size w7 wr) (fun i _ => n2 - (intOf i).toNat)
                case atStart => exact ⟨0, Nat.zero_le _, rfl, Below.refl _ _⟩
                case round =>
                  obtain ⟨j, hj, rfl, hbx⟩ := hrel
                  have zx := hbx.size
                  by_cases hltj : j < n2
                  · obtain ⟨gs, os, rfl, ⟨batch, cust⟩, hx, e0, e1⟩ := (rs7.below hbx).shAt hltj
                    simp only at e0 e1
                    have RF := Lib.hid (RH.out j _ hx)
                    simp only at RF
                    clear hx
                    have cb := cell_keep hbx cb
                    have rux := ru7.below hbx; have r7x := r7.below hbx
                    have TL := trace_len true us batch
                    rw [hlu.out] at TL
                    have j1 : (0 : Int) ≤ j := by omega
                    have j2 : (j : Int) < n2 := by omega
                    by_cases hbb : batch = b
                    · have FR := Lib.hid (RF.out (show frm us b ⟨batch, cust⟩ = true by simp [frm, hbb]))
                      subst hbb
                      have a0 := cell_wext e0; have a1 := cell_wext cb
                      go_wp2_with fail
                      refine wp_region_ext (by kernel_rfl) (by kernel_rfl) ?_
                      repeat (go_big_quiet_step (fail))
                      refine wpQuiet_nil ?_
                      intro _ hw'; obtain ⟨nq, hw''⟩ := hw'; subst hw''
                      have b9 := below_app hbx (below_wext _ nq) zx
                      have e1 := cell_keep (below_wext _ nq) e1
                      have r9 := r7x.below (below_wext _ nq)
                      clear a0 a1
                      go_wp2_with fail
                      refine (hasText_any _ _ _ R cust _ r9 (by omega)).mono ?_; rw [FR.out]; rintro e v3 ⟨rfl, rfl⟩
                      go_wp2_with fail
                      go_roundw
                      case rel => exact ⟨j + 1, by omega, by go_num, b9⟩
                      case measure => simp [intOf]; omega
                    · have hne := text_ne hbb
                      have hneb : (batch.toList == b.toList) = false := by simpa using hne
                      obtain ⟨fv, hfv⟩ : ∃ f, hasB b (traceL true us batch) = f := ⟨_, rfl⟩
                      have FV := Lib.hid (show fv = true → hasB cust R = true from fun h => RF.out (show frm us b ⟨batch, cust⟩ = true by simp only [frm, hfv, h]; simp))
                      clear RF hbb
                      go_wp2_with fail
                      go_region_held3 (fun w' => w'.cell? ⟨w3.heap.size, k, none⟩ = some (.string b) ∧ w'.cell? ⟨gs, os + j * 2, none⟩ = some (.string batch) ∧ w'.cell? ⟨gs, os + j * 2 + 1, none⟩ = some (.string cust))
                        (first
                          | go_keep
                          | (go_split_ands; exact ⟨cell_keep h1 ‹_›, cell_keep h1 ‹_›, cell_keep h1 ‹_›⟩))
                        (first
                          | (go_at_call 32; refine (hasText_any _ _ _ (traceL true us batch) b _ (RS.of_own o9) (by omega)).mono ?_; rw [hfv]; rintro e v2 ⟨rfl, rfl⟩)
                          | (go_at_call 9; refine (specMadeFrom _ _ _ us batch _ (by first | exact rux | exact rux.drewN 1) (by omega) US.out).mono ?_; rintro e v1 ⟨A9, c9, rfl, o9, h1⟩))
                      have b9 := below_app hbx (below_then ((Below.refl wr.heap.size wr).drew) h1) hbx.size
                      have e1 := cell_keep h1 (show wr.drew.cell? ⟨gs, os + j * 2 + 1, none⟩ = some (.string cust) from e1)
                      have r9 := (r7x.drewN 1).below h1
                      clear h1 o9
                      cases fv
                      · go_wp2_with fail
                        go_roundw
                        case rel => exact ⟨j + 1, by omega, by go_num, b9⟩
                        case measure => simp [intOf]; omega
                      · go_wp2_with fail
                        refine (hasText_any _ _ _ R cust _ r9 (by omega)).mono ?_; rw [FV.out (by trivial)]; rintro e v3 ⟨rfl, rfl⟩
                        go_wp2_with fail
                        go_roundw
                        case rel => exact ⟨j + 1, by omega, by go_num, b9⟩
                        case measure => simp [intOf]; omega
                  · obtain rfl : n2 = j := by omega
                    have nj : ¬ (n2 : Int) < n2 := by omega
                    go_wp2_with fail
                    obtain ⟨wy, hwy⟩ : ∃ x : World, x = wr := ⟨_, rfl⟩
                    subst hwy
                    go_loopw [14] (fun i wr => ∃ p : Nat, p ≤ rn ∧ i = .int .i64 p ∧ Below w7.heap.size w7 wr) (fun i _ => rn - (intOf i).toNat)
                    case atStart => exact ⟨0, Nat.zero_le _, rfl, hbx⟩
                    case round =>
                      obtain ⟨p, hp, rfl, hbp⟩ := hrel
                      clear hbx zx
                      have zp := hbp.size
                      by_cases hltp : p < rn
                      · obtain ⟨gr, orr, er, x, hx, cx0⟩ := (r7.below hbp).stAt hltp
                        have FT := Lib.hid (FE.out x (List.mem_of_getElem? hx))
                        have HX := Lib.hid hx
                        clear hx
                        have q1 : (0 : Int) ≤ p := by omega
                        have q2 : (p : Int) < rn := by omega
                        go_wp2_with fail
                        obtain ⟨wz, hwz⟩ : ∃ x : World, x = wr := ⟨_, rfl⟩
                        subst hwz
                        go_loopw [15, 16] (fun f i wr => ∃ q : Nat, q ≤ n2 ∧ i = .int .i64 q ∧ f = .bool (foundTo us sh b x q) ∧ Below w7.heap.size w7 wr) (fun _ i _ => n2 - (intOf i).toNat)
                        case atStart => exact ⟨0, Nat.zero_le _, rfl, by rw [foundTo_zero], hbp⟩
                        case round =>
                          obtain ⟨q, hq, rfl, rfl, hbq⟩ := hrel
                          clear hbp zp cx0 er
                          have zq := hbq.size
                          by_cases hltq : q < n2
                          · obtain ⟨gs, os, rfl, ⟨batch, cust⟩, hx, e0, e1⟩ := (rs7.below hbq).shAt hltq
                            simp only at e0 e1
                            have HFS := foundTo_succ (us := us) (b := b) (r := x) hx
                            simp only at HFS
                            clear hx
                            obtain ⟨gr, orr, rfl, x', hx', cx⟩ := (r7.below hbq).stAt hltp
                            obtain rfl : x = x' := by rw [HX.out] at hx'; exact Option.some.inj hx'
                            clear hx'
                            have cb := cell_keep hbq cb
                            have rux := ru7.below hbq
                            have TL := trace_len true us batch
                            rw [hlu.out] at TL
                            have s1 : (0 : Int) ≤ q := by omega
                            have s2 : (q : Int) < n2 := by omega
                            have a0 := cell_wext e0; have a1 := cell_wext e1; have a2 := cell_wext cx; have a3 := cell_wext cb
                            cases hf : foundTo us sh b x q
                            · rw [hf, Bool.false_or] at HFS
                              by_cases hcu : cust = x
                              · obtain rfl : x = cust := hcu.symm
                                rw [decide_eq_true rfl, Bool.true_and] at HFS
                                by_cases hbb : batch = b
                                · have FR : frm us b ⟨batch, x⟩ = true := by simp [frm, hbb]
                                  rw [FR] at HFS
                                  have FZ := Lib.hid HFS; clear HFS
                                  subst hbb
                                  clear hcu FR
                                  go_wp2_with fail
                                  refine wp_region_ext (by kernel_rfl) (by kernel_rfl) ?_
                                  repeat (go_big_quiet_step (fail))
                                  refine wpQuiet_nil ?_
                                  intro _ hw'; obtain ⟨nq, hw''⟩ := hw'; subst hw''
                                  have b9 := below_app hbq (below_wext _ nq) zq
                                  go_wp2_with fail
                                  go_roundw
                                  case rel => exact ⟨q + 1, by omega, by go_num, by rw [FZ.out], b9⟩
                                  case measure => simp [intOf]; omega
                                · have hne := text_ne hbb
                                  have hneb : (batch.toList == b.toList) = false := by simpa using hne
                                  obtain ⟨fv, hfv⟩ : ∃ f, hasB b (traceL true us batch) = f := ⟨_, rfl⟩
                                  have FR : frm us b ⟨batch, x⟩ = fv := by simp only [frm, hfv]; simp [hbb]
                                  rw [FR] at HFS
                                  have FZ := Lib.hid HFS; clear HFS
                                  clear hbb hcu FR a0 a1 a2 a3
                                  go_wp2_with fail
                                  go_region_held3 (fun w' => w'.cell? ⟨w3.heap.size, k, none⟩ = some (.string b) ∧ w'.cell? ⟨gs, os + q * 2, none⟩ = some (.string batch) ∧ w'.cell? ⟨gs, os + q * 2 + 1, none⟩ = some (.string x) ∧ w'.cell? ⟨gr, orr + p, none⟩ = some (.string x))
                                    (first
                                      | go_keep
                                      | (go_split_ands; exact ⟨cell_keep h1 ‹_›, cell_keep h1 ‹_›, cell_keep h1 ‹_›, cell_keep h1 ‹_›⟩))
                                    (first
                                      | (go_at_call 32; refine (hasText_any _ _ _ (traceL true us batch) b _ (RS.of_own o9) (by omega)).mono ?_; rw [hfv]; rintro e v2 ⟨rfl, rfl⟩)
                                      | (go_at_call 9; refine (specMadeFrom _ _ _ us batch _ (by first | exact rux | exact rux.drewN 1) (by omega) US.out).mono ?_; rintro e v1 ⟨A9, c9, rfl, o9, h1⟩))
                                  have b9 := below_app hbq (below_then ((Below.refl wr.heap.size wr).drew) h1) hbq.size
                                  go_wp2_with fail
                                  go_roundw
                                  case rel => exact ⟨q + 1, by omega, by go_num, by rw [FZ.out], b9⟩
                                  case measure => simp [intOf]; omega
                              · have hne := text_ne hcu
                                have hneb : (cust.toList == x.toList) = false := by simpa using hne
                                rw [decide_eq_false hcu, Bool.false_and] at HFS
                                have FZ := Lib.hid HFS; clear HFS
                                clear hcu
                                go_wp2_with fail
                                refine wp_region_ext (by kernel_rfl) (by kernel_rfl) ?_
                                repeat (go_big_quiet_step (fail))
                                refine wpQuiet_nil ?_
                                intro _ hw'; obtain ⟨nq, hw''⟩ := hw'; subst hw''
                                have b9 := below_app hbq (below_wext _ nq) zq
                                go_wp2_with fail
                                go_roundw
                                case rel => exact ⟨q + 1, by omega, by go_num, by rw [FZ.out], b9⟩
                                case measure => simp [intOf]; omega
                            · rw [hf, Bool.true_or] at HFS
                              have FZ := Lib.hid HFS; clear HFS
                              go_wp2_with fail
                              refine wp_region_ext (by kernel_rfl) (by kernel_rfl) ?_
                              repeat (go_big_quiet_step (fail))
                              refine wpQuiet_nil ?_
                              intro _ hw'; obtain ⟨nq, hw''⟩ := hw'; subst hw''
                              have b9 := below_app hbq (below_wext _ nq) zq
                              go_wp2_with fail
                              go_roundw
                              case rel => exact ⟨q + 1, by omega, by go_num, by rw [FZ.out], b9⟩
                              case measure => simp [intOf]; omega
                          · obtain rfl : n2 = q := by omega
                            rw [FT.out]
                            have nq : ¬ (n2 : Int) < n2 := by omega
                            go_wp2_with fail
                            go_roundw
                            case rel => exact ⟨p + 1, by omega, by go_num, hbq⟩
                            case measure => simp [intOf]; omega
                      · obtain rfl : rn = p := by omega
                        have np : ¬ (rn : Int) < rn := by omega
                        go_wp2_with fail
                        go_roundw
                        case rel => exact ⟨k + 1, by omega, by go_num, below_app B7.out hbp B7.out.size⟩
                        case measure => simp [intOf]; omega
          · obtain rfl : k = 6 := by omega
            go_wp2_with fail
            go_ret
            exact ⟨rfl, below_app B4.out hb B4.out.size⟩

set_option maxRecDepth 100000 in
theorem lifted (os : Os) (started : os.Started) (H : Type) (enc : TypeId × Value → H) :
    ReturnsInHanded {} Try.checked os 7 .any (Rows.fnRecallsSpec.pre6 enc Try.prog Try.f7 Rows.fnRecallsRow.domain false) (Rows.fnRecallsSpec.post enc Try.prog Try.f7 false true false false) := by
  refine returnsInHanded_of_change (C := Try.checked) Try.own started (by kernel_rfl) Try.func7
    (ChangeSpec.witness6 (enc := enc) (C := Try.checked) false ⟨#[], #[.slice none 0 0], []⟩ 8 (by kernel_rfl) (by kernel_rfl) (by kernel_rfl) (by kernel_rfl)) ?_
  intro W base args ds gs before hval0 hW hcnd _
  have hval : ∀ (j : Nat) t v, Try.f7.params[j]? = some t → args[j]? = some v → Value.okWide Try.prog W .any base t v := hval0
  have hW' := hW
  obtain ⟨p, q, hA0, hV, rfl, hfz, hnd⟩ := hW
  have hA : DataW.TrodAll enc Try.prog W 0 (fun _ => true) true Try.f7.params.toList args.toList ds p := hA0
  rw [Try.params7] at hA hval
  obtain ⟨v0, vs0, d0, ds0, p0, q0, hargs, rfl, rfl, h0, r0⟩ := trodAll_cons hA
  obtain ⟨rfl, rfl, rfl⟩ := trodAll_nil r0
  obtain rfl : args = #[v0] := by cases args; simp_all
  obtain ⟨rfl, rfl⟩ := trodVars_none hV
  obtain ⟨Al, nl, cl, l, rfl, hrl, hnl, hokl⟩ := open_bytes (hval 0 44 v0 rfl rfl) h0
  refine (walk W Al nl cl l hrl hnl hokl).mono fun e W' ⟨he, hb⟩ => ?_
  subst he
  exact ⟨_, rfl, law_post Try.laidOut (by kernel_rfl) (by kernel_rfl) Try.underlying4 hW' rfl ⟨rfl, rfl, rfl⟩ hb⟩

theorem proved : Rows.FnRecallsSaid :=
  OpenClaim.holds_of_wide 7 Try.f7 rfl rfl rfl rfl rfl rfl rfl ⟨rfl, rfl, rfl, rfl, rfl⟩ rfl rfl rfl rfl rfl (by kernel_rfl) Try.func7 (by kernel_rfl)
    (of_decide_eq_true (by kernel_rfl)) (by unfold Func.isWrapper; first | (rw [if_pos (by decide +kernel)]; kernel_rfl) | (rw [if_neg (by decide +kernel)]; exact ⟨rfl, rfl⟩))
    (fun os started H enc _ => lifted os started H enc)
#print axioms proved
end Go.Proofs.Ytaldlinekipblaa.fnRecalls
