/- The walks of AreUses. No condition. -/
import Derived.Test.YtaldlinekipblaaWalkS
import Derived.Test.YtaldlinekipblaaIn
import Derived.Deep.RegionHeld3
namespace Go.Proofs.Ytaldlinekipblaa
open Go.ChangeShapes Go.WideShapes Go.ChangeAt Go.RowKit

def usSmall (l : List Us) : Prop := ∀ u ∈ l, u.frm.size ≤ 9223372036854775807 ∧ u.into.size ≤ 9223372036854775807
theorem all_next {us : List Us} {P : Us → Prop} {k : Nat} {u : Us} (h : ∀ (j : Nat) (v : Us), j < k → us[j]? = some v → P v) (hx : us[k]? = some u) (hu : P u) : ∀ (j : Nat) (v : Us), j < k + 1 → us[j]? = some v → P v := fun j v hj hv => by
  rcases Nat.lt_succ_iff_lt_or_eq.1 hj with h' | rfl
  · exact h j v h' hv
  · rw [hx] at hv; injection hv with hv; rw [← hv]; exact hu
set_option maxRecDepth 100000 in
set_option maxHeartbeats 4000000 in
theorem implAreUses (A : Option Addr) (n c : Nat) (us : List Us) (w : World) (hr : RS w 3 A n (us.flatMap usCell)) (hn : n ≤ 1048600) (hs : usSmall us) :
    Calls Try.prog 37 #[.slice A n c] w fun e w' => e = .returned (.bool (areUses us)) ∧ Below w.heap.size w w' := by
  have hl := Lib.hid (hr.flatLen usCell_len (by omega))
  have SM := Lib.hid hs; clear hs
  go_enter Try.func37, Try.ntmps37
  go_wp2
  go_loopw [11] (fun i wr => ∃ k : Nat, k ≤ n ∧ i = .int .i64 k ∧ Below w.heap.size w wr ∧ Hid (∀ (j : Nat) (u : Us), j < k → us[j]? = some u → useOk u = true)) (fun i _ => n - (intOf i).toNat)
  case atStart => exact ⟨0, Nat.zero_le _, rfl, Below.refl _ _, fun _ _ h => absurd h (Nat.not_lt_zero _)⟩
  case round =>
    obtain ⟨k, hk, rfl, hb, hall⟩ := hrel
    have hz := hb.size
    by_cases hlt : k < n
    · obtain ⟨g, off, rfl, ⟨frm, into, q⟩, hx, c0, c1, c2⟩ := (hr.below hb).usAt hlt
      obtain ⟨s1, s2⟩ := SM.out _ (List.mem_of_getElem? hx)
      simp only at c0 c1 c2 s1 s2
      have NX := Lib.hid (all_next hall.out hx)
      have BD := Lib.hid (uses_bad hx)
      clear hx hall
      have b1 := Lib.hid (hb.alloc hz (Obj.cells #[.string frm, .string into, .int .i64 q] 56))
      cases h1 : isCode frm
      · have R := Lib.hid (BD.out (show useOk ⟨frm, into, q⟩ = false by simp [useOk, h1]))
        go_wp2_with fail
        refine (implIsCode frm _ s1).mono ?_; rw [h1]; rintro e w' ⟨rfl, rfl⟩
        go_wp2_with fail
        go_ret
        exact ⟨ret_bool R.out.symm, b1.out⟩
      · cases h2 : isCode into
        · have R := Lib.hid (BD.out (show useOk ⟨frm, into, q⟩ = false by simp [useOk, h2]))
          go_wp2_with fail
          refine (implIsCode frm _ s1).mono ?_; rw [h1]; rintro e w' ⟨rfl, rfl⟩
          go_wp2_with fail
          refine (implIsCode into _ s2).mono ?_; rw [h2]; rintro e w' ⟨rfl, rfl⟩
          go_wp2_with fail
          go_ret
          exact ⟨ret_bool R.out.symm, b1.out⟩
        · by_cases h3 : frm = into
          · have R := Lib.hid (BD.out (show useOk ⟨frm, into, q⟩ = false by simp [useOk, h3]))
            subst h3
            go_wp2_with fail
            refine (implIsCode frm _ s1).mono ?_; rw [h1]; rintro e w' ⟨rfl, rfl⟩
            go_wp2_with fail
            refine (implIsCode frm _ s2).mono ?_; rw [h1]; rintro e w' ⟨rfl, rfl⟩
            go_wp2_with fail
            go_ret
            exact ⟨ret_bool R.out.symm, b1.out⟩
          · have hne := text_ne h3
            have hneb : (frm.toList == into.toList) = false := by simpa using hne
            cases h4 : inB q 1 100000
            · have R := Lib.hid (BD.out (show useOk ⟨frm, into, q⟩ = false by simp [useOk, h4]))
              clear h3
              go_wp2_with fail
              refine (implIsCode frm _ s1).mono ?_; rw [h1]; rintro e w' ⟨rfl, rfl⟩
              go_wp2_with fail
              refine (implIsCode into _ s2).mono ?_; rw [h2]; rintro e w' ⟨rfl, rfl⟩
              go_wp2_with fail
              refine (impl_in _ _ _ _).mono ?_; rw [h4]; rintro e w' ⟨rfl, rfl⟩
              go_wp2_with fail
              go_ret
              exact ⟨ret_bool R.out.symm, b1.out⟩
            · have G := Lib.hid (NX.out (show useOk ⟨frm, into, q⟩ = true by simp [useOk, h1, h2, h3, h4]))
              clear h3
              go_wp2_with fail
              refine (implIsCode frm _ s1).mono ?_; rw [h1]; rintro e w' ⟨rfl, rfl⟩
              go_wp2_with fail
              refine (implIsCode into _ s2).mono ?_; rw [h2]; rintro e w' ⟨rfl, rfl⟩
              go_wp2_with fail
              refine (impl_in _ _ _ _).mono ?_; rw [h4]; rintro e w' ⟨rfl, rfl⟩
              go_wp2_with fail
              go_roundw
              case rel => exact ⟨k + 1, by omega, by go_num, b1.out, G.out⟩
              case measure => simp [intOf]; omega
    · obtain rfl : n = k := by omega
      have AG : Hid (∀ (j : Nat) (u : Us), us[j]? = some u → useOk u = true) := fun j u hx => hall.out j u (by rw [← hl.out]; exact (List.getElem?_eq_some_iff.1 hx).1) hx
      clear hall
      by_cases h24 : n ≤ 24
      · have i3 : ¬ (24 : Int) < n := by omega
        go_wp2_with fail
        go_loopw [44] (fun i wr => ∃ k : Nat, k ≤ n ∧ i = .int .i64 k ∧ Below w.heap.size w wr ∧ Hid (∀ (j : Nat) (u : Us), j < k → us[j]? = some u → u.frm ∉ reachL false us u.into)) (fun i _ => n - (intOf i).toNat)
        case atStart => exact ⟨0, Nat.zero_le _, rfl, hb, fun _ _ h => absurd h (Nat.not_lt_zero _)⟩
        case round =>
          obtain ⟨k, hk, rfl, hb2, hall⟩ := hrel
          clear hb hz
          have hz := hb2.size
          by_cases hlt : k < n
          · obtain ⟨g, off, hA, ⟨frm, into, q⟩, hx, c0, c1, c2⟩ := (hr.below hb2).usAt hlt
            have RD := Lib.hid (uses_round hx)
            have NX := Lib.hid (all_next (P := fun u => u.frm ∉ reachL false us u.into) hall.out hx)
            simp only at c0 c1 c2 RD NX
            clear hx hall
            have b1 := Lib.hid (hb2.alloc hz (Obj.cells #[.string frm, .string into, .int .i64 q] 56))
            have XB := Lib.hid (blk_new1 wr (Obj.cells #[.string frm, .string into, .int .i64 q] 56))
            have hr2 := hr.below b1.out
            have a0 := blk_at XB.out (j := 0) rfl; have a1 := blk_at XB.out (j := 1) rfl
            subst hA
            go_wp2_with fail
            refine (implReachDown _ _ _ us into _ hr2 (by omega)).mono ?_; rintro e w2 ⟨A2, c2, v2, rfl, o2, hb3⟩
            have b2 := Lib.hid (below_app b1.out hb3 b1.out.size)
            have a0 := cell_keep hb3 a0
            have ho := RS.of_own o2
            have bd := (reach_len false us into).2
            rw [hl.out] at bd
            clear hb3 o2 hb2
            by_cases hin : frm ∈ reachL false us into
            · have pp := posB_in hin
              have R := Lib.hid (RD.out hin)
              go_wp2_with fail
              refine (implIndexOf _ _ _ (reachL false us into) frm _ ho (by omega)).mono ?_; rintro e w' ⟨rfl, rfl⟩
              go_wp2_with fail
              go_ret
              exact ⟨ret_bool R.out.symm, b2.out⟩
            · have pp := posB_none hin
              have p0 : ¬ 0 ≤ posB (reachL false us into) frm := by omega
              have G := Lib.hid (NX.out hin)
              clear pp
              go_wp2_with fail
              refine (implIndexOf _ _ _ (reachL false us into) frm _ ho (by omega)).mono ?_; rintro e w' ⟨rfl, rfl⟩
              go_wp2_with fail
              go_roundw
              case rel => exact ⟨k + 1, by omega, by go_num, b2.out, G.out⟩
              case measure => simp [intOf]; omega
          · obtain rfl : n = k := by omega
            have R := Lib.hid (uses_good AG.out (by rw [hl.out]; exact h24) fun j u hx => hall.out j u (by rw [← hl.out]; exact (List.getElem?_eq_some_iff.1 hx).1) hx)
            clear hall AG
            go_wp2_with fail
            go_ret
            exact ⟨ret_bool R.out.symm, hb2⟩
      · have R := Lib.hid (uses_long (us := us) (by rw [hl.out]; exact h24))
        have i3 : (24 : Int) < n := by omega
        go_wp2_with fail
        go_ret
        exact ⟨ret_bool R.out.symm, hb⟩
set_option maxRecDepth 100000 in
set_option maxHeartbeats 3000000 in
theorem specAreUses (A : Option Addr) (n c : Nat) (us : List Us) (w : World) (hr : RS w 3 A n (us.flatMap usCell)) (hn : n ≤ 1048600) (hs : usSmall us) :
    Calls Try.prog 31 #[.slice A n c] w fun e w' => e = .returned (.bool (areUses us)) ∧ Below w.heap.size w w' := by
  have hl := Lib.hid (hr.flatLen usCell_len (by omega))
  have SM := Lib.hid hs; clear hs
  by_cases h24 : n ≤ 24
  · have i3 : (n : Int) ≤ 24 := by omega
    go_enter Try.func31, Try.ntmps31
    go_wp2
    go_loopw [3] (fun i wr => ∃ k : Nat, k ≤ n ∧ i = .int .i64 k ∧ Below w.heap.size w wr ∧ Hid (∀ (j : Nat) (u : Us), j < k → us[j]? = some u → useOk u = true)) (fun i _ => n - (intOf i).toNat)
    case atStart => exact ⟨0, Nat.zero_le _, rfl, Below.refl _ _, fun _ _ h => absurd h (Nat.not_lt_zero _)⟩
    case round =>
      obtain ⟨k, hk, rfl, hb, hall⟩ := hrel
      have hz := hb.size
      by_cases hlt : k < n
      · obtain ⟨g, off, rfl, ⟨frm, into, q⟩, hx, c0, c1, c2⟩ := (hr.below hb).usAt hlt
        obtain ⟨s1, s2⟩ := SM.out _ (List.mem_of_getElem? hx)
        simp only at c0 c1 c2 s1 s2
        have NX := Lib.hid (all_next hall.out hx)
        have BD := Lib.hid (uses_bad hx)
        clear hx hall
        have i1 : (0 : Int) ≤ k := by omega
        have i2 : (k : Int) < n := by omega
        have a0 := cell_wext c0; have a1 := cell_wext c1; have a2 := cell_wext c2
        cases h1 : isCode frm
        · have R := Lib.hid (BD.out (show useOk ⟨frm, into, q⟩ = false by simp [useOk, h1]))
          go_wp2_with fail
          refine wp_region_ext (by kernel_rfl) (by kernel_rfl) ?_
          repeat (go_big_quiet_step ((go_at_call 56; exact ext_quiet (specIsCode _ _ (by first | exact s1 | exact s2)))))
          refine wpQuiet_nil ?_
          intro _ hw'; obtain ⟨nq, hw''⟩ := hw'; subst hw''
          have b1 := below_app hb (below_wext _ nq) hz
          go_wp2_with fail
          go_ret
          exact ⟨ret_bool R.out.symm, b1⟩
        · skip
          cases h2 : isCode into
          · have R := Lib.hid (BD.out (show useOk ⟨frm, into, q⟩ = false by simp [useOk, h2]))
            go_wp2_with fail
            refine wp_region_ext (by kernel_rfl) (by kernel_rfl) ?_
            repeat (go_big_quiet_step ((go_at_call 56; exact ext_quiet (specIsCode _ _ (by first | exact s1 | exact s2)))))
            refine wpQuiet_nil ?_
            intro _ hw'; obtain ⟨nq, hw''⟩ := hw'; subst hw''
            have b1 := below_app hb (below_wext _ nq) hz
            go_wp2_with fail
            go_ret
            exact ⟨ret_bool R.out.symm, b1⟩
          · skip
            cases h4 : inB q 1 100000
            · have R := Lib.hid (BD.out (show useOk ⟨frm, into, q⟩ = false by simp [useOk, h4]))
              go_wp2_with fail
              refine wp_region_ext (by kernel_rfl) (by kernel_rfl) ?_
              repeat (go_big_quiet_step (first | (go_at_call 56; exact ext_quiet (specIsCode _ _ (by first | exact s1 | exact s2))) | (go_at_call 57; exact ext_quiet (spec_in _ _ _ _))))
              refine wpQuiet_nil ?_
              intro _ hw'; obtain ⟨nq, hw''⟩ := hw'; subst hw''
              have b1 := below_app hb (below_wext _ nq) hz
              go_wp2_with fail
              go_ret
              exact ⟨ret_bool R.out.symm, b1⟩
            · skip
              by_cases h3 : frm = into
              · have R := Lib.hid (BD.out (show useOk ⟨frm, into, q⟩ = false by simp [useOk, h3]))
                subst h3
                go_wp2_with fail
                refine wp_region_ext (by kernel_rfl) (by kernel_rfl) ?_
                repeat (go_big_quiet_step (first | (go_at_call 56; exact ext_quiet (specIsCode _ _ (by first | exact s1 | exact s2))) | (go_at_call 57; exact ext_quiet (spec_in _ _ _ _))))
                refine wpQuiet_nil ?_
                intro _ hw'; obtain ⟨nq, hw''⟩ := hw'; subst hw''
                have b1 := below_app hb (below_wext _ nq) hz
                go_wp2_with fail
                go_ret
                exact ⟨ret_bool R.out.symm, b1⟩
              · have hne := text_ne h3
                have hneb : (frm.toList == into.toList) = false := by simpa using hne
                have G := Lib.hid (NX.out (show useOk ⟨frm, into, q⟩ = true by simp [useOk, h1, h2, h3, h4]))
                clear h3
                go_wp2_with fail
                refine wp_region_ext (by kernel_rfl) (by kernel_rfl) ?_
                repeat (go_big_quiet_step (first | (go_at_call 56; exact ext_quiet (specIsCode _ _ (by first | exact s1 | exact s2))) | (go_at_call 57; exact ext_quiet (spec_in _ _ _ _))))
                refine wpQuiet_nil ?_
                intro _ hw'; obtain ⟨nq, hw''⟩ := hw'; subst hw''
                have b1 := below_app hb (below_wext _ nq) hz
                go_wp2_with fail
                go_roundw
                case rel => exact ⟨k + 1, by omega, by go_num, b1, G.out⟩
                case measure => simp [intOf]; omega
      · obtain rfl : n = k := by omega
        have AG : Hid (∀ (j : Nat) (u : Us), us[j]? = some u → useOk u = true) := fun j u hx => hall.out j u (by rw [← hl.out]; exact (List.getElem?_eq_some_iff.1 hx).1) hx
        clear hall
        go_wp2_with fail
        go_loopw [4] (fun i wr => ∃ k : Nat, k ≤ n ∧ i = .int .i64 k ∧ Below w.heap.size w wr ∧ Hid (∀ (j : Nat) (u : Us), j < k → us[j]? = some u → u.frm ∉ reachL false us u.into)) (fun i _ => n - (intOf i).toNat)
        case atStart => exact ⟨0, Nat.zero_le _, rfl, hb, fun _ _ h => absurd h (Nat.not_lt_zero _)⟩
        case round =>
          obtain ⟨k, hk, rfl, hb2, hall⟩ := hrel
          clear hb hz
          have hz := hb2.size
          by_cases hlt : k < n
          · obtain ⟨g, off, rfl, ⟨frm, into, q⟩, hx, c0, c1, c2⟩ := (hr.below hb2).usAt hlt
            have NE := Lib.hid (useOk_ne (AG.out k _ hx))
            have RD := Lib.hid (uses_round hx)
            have NX := Lib.hid (all_next (P := fun u => u.frm ∉ reachL false us u.into) hall.out hx)
            simp only at c0 c1 c2 RD NX NE
            clear hx hall
            have i1 : (0 : Int) ≤ k := by omega
            have i2 : (k : Int) < n := by omega
            have hr2 := hr.below hb2
            have bd := rest_len false us into
            have bd2 := (reach_len false us into).2
            rw [hl.out] at bd2
            have DR := Lib.hid (show frm ∈ restL false us into ↔ frm ∈ reachL false us into from reach_drop (u := ⟨frm, into, q⟩) NE.out false)
            by_cases hin : frm ∈ reachL false us into
            · have pp : 0 ≤ posB (restL false us into) frm := posB_in (DR.out.2 hin)
              have R := Lib.hid (RD.out hin)
              go_wp2_with fail
              go_region_held3 (fun w' => w'.cell? ⟨g, off + k * 3, none⟩ = some (.string frm) ∧ w'.cell? ⟨g, off + k * 3 + 1, none⟩ = some (.string into))
                (first
                  | go_keep
                  | (go_split_ands; exact ⟨cell_keep h1 ‹_›, cell_keep h1 ‹_›⟩))
                (first
                  | (go_at_call 44; refine (specFind _ _ _ (restL false us into) frm _ rs1 (by omega)).mono ?_; rintro e v2 ⟨rfl, rfl⟩)
                  | (go_at_call 35; refine (specWalkDown _ _ _ us into _ (hr2.drewN 1) (by omega)).mono ?_; rintro e v1 ⟨A1, m1, c1', rfl, hm1, rs1, h1⟩))
              have b2 := hb2.drew.trans (h1.mono hz)
              go_wp2_with fail
              go_ret
              exact ⟨ret_bool R.out.symm, b2⟩
            · have pp : posB (restL false us into) frm = -1 := posB_none (fun h => hin (DR.out.1 h))
              have p0 : ¬ 0 ≤ posB (restL false us into) frm := by omega
              have G := Lib.hid (NX.out hin)
              go_wp2_with fail
              go_region_held3 (fun w' => w'.cell? ⟨g, off + k * 3, none⟩ = some (.string frm) ∧ w'.cell? ⟨g, off + k * 3 + 1, none⟩ = some (.string into))
                (first
                  | go_keep
                  | (go_split_ands; exact ⟨cell_keep h1 ‹_›, cell_keep h1 ‹_›⟩))
                (first
                  | (go_at_call 44; refine (specFind _ _ _ (restL false us into) frm _ rs1 (by omega)).mono ?_; rintro e v2 ⟨rfl, rfl⟩)
                  | (go_at_call 35; refine (specWalkDown _ _ _ us into _ (hr2.drewN 1) (by omega)).mono ?_; rintro e v1 ⟨A1, m1, c1', rfl, hm1, rs1, h1⟩))
              have b2 := hb2.drew.trans (h1.mono hz)
              go_wp2_with fail
              go_roundw
              case rel => exact ⟨k + 1, by omega, by go_num, b2, G.out⟩
              case measure => simp [intOf]; omega
          · obtain rfl : n = k := by omega
            have R := Lib.hid (uses_good AG.out (by rw [hl.out]; exact h24) fun j u hx => hall.out j u (by rw [← hl.out]; exact (List.getElem?_eq_some_iff.1 hx).1) hx)
            clear hall AG
            go_wp2_with fail
            go_ret
            exact ⟨ret_bool R.out.symm, hb2⟩
  · have R := Lib.hid (uses_long (us := us) (by rw [hl.out]; exact h24))
    have i3 : ¬ (n : Int) ≤ 24 := by omega
    have i2 : (0 : Int) < n := by omega
    go_enter Try.func31, Try.ntmps31
    go_wp2
    refine wp_loop_once ?_
    go_wp2
    refine wp_loop_once ?_
    go_wp2
    go_ret
    exact ⟨ret_bool (by rw [R.out]; simp; omega), Below.refl _ _⟩
end Go.Proofs.Ytaldlinekipblaa
