/- Catalogs: the plain words, and the walks of IsCatalog and FindItem. -/
import Derived.Test.YtnhkpdaogclfjaaItemW
import Derived.Test.YtnhkpdaogclfjaaTextEq
namespace Go.Proofs.Ytnhkpdaogclfjaa
open Go.ChangeShapes Go.WideShapes Go.ChangeAt Go.RowKit

def txtLess (a b : ByteArray) : Bool := Op.bytesLess a.toList b.toList
def rises {α : Type} (f : α → ByteArray) (l : List α) (k : Nat) (s : ByteArray) : Bool := decide (k = 0) || (match l[k-1]? with | some y => txtLess (f y) s | none => true)
theorem rises_zero {α : Type} (f : α → ByteArray) (l : List α) (s : ByteArray) : rises f l 0 s = true := by simp [rises]
theorem rises_at {α : Type} {f : α → ByteArray} {l : List α} {k : Nat} {s : ByteArray} {y : α} (hk : 0 < k) (h : l[k-1]? = some y) : rises f l k s = txtLess (f y) s := by
  have : decide (k = 0) = false := by simp; omega
  simp [rises, h, this]
def allAt {α : Type} (l : List α) (p : Nat → α → Bool) : Bool := (List.range l.length).all (fun k => match l[k]? with | some x => p k x | none => true)
theorem allAt_bad {α : Type} {l : List α} {p : Nat → α → Bool} {k : Nat} {x : α} (hx : l[k]? = some x) (h : p k x = false) : allAt l p = false := by
  have hk := (List.getElem?_eq_some_iff.1 hx).1
  rw [allAt, List.all_eq_false]; exact ⟨k, List.mem_range.2 hk, by simp [hx, h]⟩
theorem allAt_good {α : Type} {l : List α} {p : Nat → α → Bool} (h : ∀ (j : Nat) (x : α), l[j]? = some x → p j x = true) : allAt l p = true := by
  rw [allAt, List.all_eq_true]; intro j hj
  have hj' := List.mem_range.1 hj
  have hx : l[j]? = some l[j] := List.getElem?_eq_getElem hj'
  simp only [hx]
  exact h j _ hx
def catOk (l : List It) (k : Nat) (x : It) : Bool := isItem x && rises It.code l k x.code
def isCat (l : List It) : Bool := allAt l (catOk l) && decide (l.length ≤ 12)
theorem isCat_bad {l : List It} {k : Nat} {x : It} (hx : l[k]? = some x) (h : catOk l k x = false) : isCat l = false := by
  simp [isCat, allAt_bad hx h]
theorem isCat_good {l : List It} (h : ∀ (j : Nat) (x : It), l[j]? = some x → catOk l j x = true) : isCat l = decide (l.length ≤ 12) := by
  simp [isCat, allAt_good h]
def findAt (l : List It) (s : ByteArray) : Int := match l.findIdx? (fun x => decide (x.code = s)) with | some k => k | none => -1
theorem findAt_hit {l : List It} {s : ByteArray} {k : Nat} {x : It} (hx : l[k]? = some x) (h : x.code = s) (hb : ∀ (j : Nat) (y : It), j < k → l[j]? = some y → ¬ y.code = s) : findAt l s = k := by
  have hk := (List.getElem?_eq_some_iff.1 hx).1
  have : l.findIdx? (fun x => decide (x.code = s)) = some k := by
    rw [List.findIdx?_eq_some_iff_getElem]
    refine ⟨hk, ?_, fun j hj => ?_⟩
    · have := (List.getElem?_eq_some_iff.1 hx).2
      simp [this, h]
    · have := hb j l[j] hj (List.getElem?_eq_getElem (by omega))
      simp [this]
  simp [findAt, this]
theorem findAt_none {l : List It} {s : ByteArray} (hb : ∀ (j : Nat) (y : It), l[j]? = some y → ¬ y.code = s) : findAt l s = -1 := by
  have : l.findIdx? (fun x => decide (x.code = s)) = none := by
    rw [List.findIdx?_eq_none_iff]
    intro y hy
    obtain ⟨j, hj, rfl⟩ := List.getElem_of_mem hy
    simp [hb j l[j] (List.getElem?_eq_getElem hj)]
  simp [findAt, this]
set_option maxRecDepth 100000 in
set_option maxHeartbeats 2000000 in
theorem implFind (A : Option Addr) (n c : Nat) (l : List It) (s : ByteArray) (w : World) (hr : RS w 8 A n (l.flatMap itCell)) (hn : n ≤ 9223372036854775807) :
    Calls Try.prog 35 #[.slice A n c, .string s] w fun e w' => e = .returned (.int .i64 (findAt l s)) ∧ Below w.heap.size w w' := by
  have hl := Lib.hid (hr.flatLen itCell_len (by omega))
  go_enter Try.func35, Try.ntmps35
  go_wp2
  go_loopw [9] (fun i wr => ∃ k : Nat, k ≤ n ∧ i = .int .i64 k ∧ Below w.heap.size w wr ∧ Hid (∀ (j : Nat) (y : It), j < k → l[j]? = some y → ¬ y.code = s)) (fun i _ => n - (intOf i).toNat)
  case atStart => exact ⟨0, Nat.zero_le _, rfl, Below.refl _ _, fun j y h => absurd h (Nat.not_lt_zero _)⟩
  case round =>
    obtain ⟨k, hk, rfl, hb, hno⟩ := hrel
    have hz := hb.size
    by_cases hlt : k < n
    · obtain ⟨g, off, rfl, ⟨code, unit, kind, lead, rule, size, safety, scrap⟩, hx, hc0, hc1, hc2, hc3, hc4, hc5, hc6, hc7⟩ := (hr.below hb).itAt hlt
      simp only at hc0 hc1 hc2 hc3 hc4 hc5 hc6 hc7
      have i1 : (0 : Int) ≤ k := by omega
      have i2 : (k : Int) < n := by omega
      have step : ¬ code = s → ∀ (j : Nat) (y : It), j < k + 1 → l[j]? = some y → ¬ y.code = s := fun h j y hj hy => by
        rcases Nat.lt_succ_iff_lt_or_eq.1 hj with h' | rfl
        · exact hno.out j y h' hy
        · rw [hx] at hy; injection hy with hy; rw [← hy]; exact h
      have ST := Lib.hid step; clear step
      have HX := Lib.hid hx; clear hx
      by_cases hcode : code = s
      · subst hcode
        have HH := Lib.hid (findAt_hit HX.out rfl hno.out)
        go_wp2_with fail
        go_ret
        exact ⟨ret_int (by rw [HH.out]), by first | exact hb | exact hb.alloc hz _⟩
      · have HH := Lib.hid (ST.out hcode)
        have hne := text_ne hcode
        have hne2 : (code.toList == s.toList) = false := by simpa using hne
        clear hcode
        go_wp2_with fail
        go_roundw
        case rel => exact ⟨k + 1, by omega, by go_num, by first | exact hb | exact hb.alloc hz _, HH.out⟩
        case measure => simp [intOf]; omega
    · obtain rfl : n = k := by omega
      have HH := Lib.hid (findAt_none (s := s) (fun j y hy => hno.out j y (by rw [← hl.out]; exact (List.getElem?_eq_some_iff.1 hy).1) hy))
      clear hno
      go_wp2_with fail
      go_ret
      exact ⟨ret_int (by rw [HH.out]), hb⟩
set_option maxRecDepth 100000 in
set_option maxHeartbeats 2000000 in
theorem specFind (A : Option Addr) (n c : Nat) (l : List It) (s : ByteArray) (w : World) (hr : RS w 8 A n (l.flatMap itCell)) (hn : n ≤ 9223372036854775807) :
    Calls Try.prog 29 #[.slice A n c, .string s] w fun e w' => e = .returned (.int .i64 (findAt l s)) ∧ Below w.heap.size w w' := by
  have hl := Lib.hid (hr.flatLen itCell_len (by omega))
  go_enter Try.func29, Try.ntmps29
  go_wp2
  go_loopw [5] (fun i wr => ∃ k : Nat, k ≤ n ∧ i = .int .i64 k ∧ Below w.heap.size w wr ∧ Hid (∀ (j : Nat) (y : It), j < k → l[j]? = some y → ¬ y.code = s)) (fun i _ => n - (intOf i).toNat)
  case atStart => exact ⟨0, Nat.zero_le _, rfl, Below.refl _ _, fun j y h => absurd h (Nat.not_lt_zero _)⟩
  case round =>
    obtain ⟨k, hk, rfl, hb, hno⟩ := hrel
    have hz := hb.size
    by_cases hlt : k < n
    · obtain ⟨g, off, rfl, ⟨code, unit, kind, lead, rule, size, safety, scrap⟩, hx, hc0, hc1, hc2, hc3, hc4, hc5, hc6, hc7⟩ := (hr.below hb).itAt hlt
      simp only at hc0 hc1 hc2 hc3 hc4 hc5 hc6 hc7
      have i1 : (0 : Int) ≤ k := by omega
      have i2 : (k : Int) < n := by omega
      have step : ¬ code = s → ∀ (j : Nat) (y : It), j < k + 1 → l[j]? = some y → ¬ y.code = s := fun h j y hj hy => by
        rcases Nat.lt_succ_iff_lt_or_eq.1 hj with h' | rfl
        · exact hno.out j y h' hy
        · rw [hx] at hy; injection hy with hy; rw [← hy]; exact h
      have ST := Lib.hid step; clear step
      have HX := Lib.hid hx; clear hx
      by_cases hcode : code = s
      · subst hcode
        have HH := Lib.hid (findAt_hit HX.out rfl hno.out)
        go_wp2_with fail
        go_ret
        exact ⟨ret_int (by rw [HH.out]), by first | exact hb | exact hb.alloc hz _⟩
      · have HH := Lib.hid (ST.out hcode)
        have hne := text_ne hcode
        have hne2 : (code.toList == s.toList) = false := by simpa using hne
        clear hcode
        go_wp2_with fail
        go_roundw
        case rel => exact ⟨k + 1, by omega, by go_num, by first | exact hb | exact hb.alloc hz _, HH.out⟩
        case measure => simp [intOf]; omega
    · obtain rfl : n = k := by omega
      have HH := Lib.hid (findAt_none (s := s) (fun j y hy => hno.out j y (by rw [← hl.out]; exact (List.getElem?_eq_some_iff.1 hy).1) hy))
      clear hno
      go_wp2_with fail
      go_ret
      exact ⟨ret_int (by rw [HH.out]), hb⟩
set_option maxRecDepth 100000 in
set_option maxHeartbeats 4000000 in
theorem implIsCatalog (A : Option Addr) (n c : Nat) (l : List It) (w : World) (hr : RS w 8 A n (l.flatMap itCell)) (hn : n ≤ 9223372036854775807) (hok : ∀ x ∈ l, itOk x) :
    Calls Try.prog 34 #[.slice A n c] w fun e w' => e = .returned (.bool (isCat l)) ∧ Below w.heap.size w w' := by
  have hl := Lib.hid (hr.flatLen itCell_len (by omega))
  have OK := Lib.hid hok; clear hok
  go_enter Try.func34, Try.ntmps34
  go_wp2
  go_loopw [7] (fun i wr => ∃ k : Nat, k ≤ n ∧ i = .int .i64 k ∧ Below w.heap.size w wr ∧ Hid (∀ (j : Nat) (x : It), j < k → l[j]? = some x → catOk l j x = true)) (fun i _ => n - (intOf i).toNat)
  case atStart => exact ⟨0, Nat.zero_le _, rfl, Below.refl _ _, fun j x h => absurd h (Nat.not_lt_zero _)⟩
  case round =>
    obtain ⟨k, hk, rfl, hb, hgood⟩ := hrel
    have hz := hb.size
    by_cases hlt : k < n
    · obtain ⟨g, off, rfl, ⟨code, unit, kind, lead, rule, size, safety, scrap⟩, hx, hc0, hc1, hc2, hc3, hc4, hc5, hc6, hc7⟩ := (hr.below hb).itAt hlt
      have hok := OK.out _ (List.mem_of_getElem? hx)
      have s1 := hok.1
      have s2 := hok.2.1
      simp only at hc0 hc1 hc2 hc3 hc4 hc5 hc6 hc7 s1 s2
      clear hok
      have HX := Lib.hid hx; clear hx
      have i1 : (0 : Int) ≤ k := by omega
      have i2 : (k : Int) < n := by omega
      have step : catOk l k ⟨code, unit, kind, lead, rule, size, safety, scrap⟩ = true → ∀ (j : Nat) (y : It), j < k + 1 → l[j]? = some y → catOk l j y = true := fun h j y hj hy => by
        rcases Nat.lt_succ_iff_lt_or_eq.1 hj with h' | rfl
        · exact hgood.out j y h' hy
        · rw [HX.out] at hy; injection hy with hy; rw [← hy]; exact h
      have ST := Lib.hid step; clear step
      have X0 := Lib.hid (blk_new1 wr (Obj.cells #[.string code, .string unit, .int .i64 kind, .int .i64 lead, .int .i64 rule, .int .i64 size, .int .i64 safety, .int .i64 scrap] 64))
      have c0 := cell_wext (blk_at X0.out (j := 0) rfl)
      have c1 := cell_wext (blk_at X0.out (j := 1) rfl)
      have c2 := cell_wext (blk_at X0.out (j := 2) rfl)
      have c3 := cell_wext (blk_at X0.out (j := 3) rfl)
      have c4 := cell_wext (blk_at X0.out (j := 4) rfl)
      have c5 := cell_wext (blk_at X0.out (j := 5) rfl)
      have c6 := cell_wext (blk_at X0.out (j := 6) rfl)
      have c7 := cell_wext (blk_at X0.out (j := 7) rfl)
      cases q1 : isItem ⟨code, unit, kind, lead, rule, size, safety, scrap⟩
      · have BAD := Lib.hid (isCat_bad HX.out (show catOk l k ⟨code, unit, kind, lead, rule, size, safety, scrap⟩ = false by simp [catOk, q1]))
        go_wp2
        refine wp_region_ext (by kernel_rfl) (by kernel_rfl) ?_
        repeat (go_big_quiet_step ((go_at_call 63; exact ext_call (implIsItem ⟨code, unit, kind, lead, rule, size, safety, scrap⟩ _ s1 s2))))
        refine wpQuiet_nil ?_
        intro _ hw'; obtain ⟨nq, hw''⟩ := hw'; subst hw''
        have b2 := below_app (hb.alloc hz (Obj.cells #[.string code, .string unit, .int .i64 kind, .int .i64 lead, .int .i64 rule, .int .i64 size, .int .i64 safety, .int .i64 scrap] 64)) (below_wext _ nq) (by simp only [World.size_alloc]; omega)
        go_wp2
        go_ret
        exact ⟨ret_bool BAD.out.symm, b2⟩
      · by_cases hk0 : 0 < k
        · obtain ⟨g', off', he', ⟨code', unit', kind', lead', rule', size', safety', scrap'⟩, hx', hp0, hp1, hp2, hp3, hp4, hp5, hp6, hp7⟩ := (hr.below hb).itAt (show k - 1 < n by omega)
          injection he' with he'
          injection he' with e1 e2
          subst e1 e2
          simp only at hp0
          clear hp1 hp2 hp3 hp4 hp5 hp6 hp7
          have d0 := cell_wext (cell_alloc hp0 (Obj.cells #[.string code, .string unit, .int .i64 kind, .int .i64 lead, .int .i64 rule, .int .i64 size, .int .i64 safety, .int .i64 scrap] 64))
          have RI := Lib.hid (rises_at (f := It.code) (s := code) hk0 hx'); clear hx'
          simp only at RI
          have i3 : (0 : Int) ≤ ((k : Int) - 1) := by omega
          have i4 : ((k : Int) - 1) < n := by omega
          have i5 : ((k : Int) - 1).toNat = k - 1 := by omega
          have i6 : ((k : Int)).toNat = k := by omega
          have i7 : (0 : Int) < k := by omega
          cases q2 : Op.bytesLess code'.toList code.toList
          · have BAD := Lib.hid (isCat_bad HX.out (show catOk l k ⟨code, unit, kind, lead, rule, size, safety, scrap⟩ = false by simp [catOk, q1, RI.out, txtLess, q2]))
            go_wp2
            refine wp_region_ext (by kernel_rfl) (by kernel_rfl) ?_
            repeat (go_big_quiet_step ((go_at_call 63; exact ext_call (implIsItem ⟨code, unit, kind, lead, rule, size, safety, scrap⟩ _ s1 s2))))
            refine wpQuiet_nil ?_
            intro _ hw'; obtain ⟨nq, hw''⟩ := hw'; subst hw''
            have b2 := below_app (hb.alloc hz (Obj.cells #[.string code, .string unit, .int .i64 kind, .int .i64 lead, .int .i64 rule, .int .i64 size, .int .i64 safety, .int .i64 scrap] 64)) (below_wext _ nq) (by simp only [World.size_alloc]; omega)
            go_wp2
            go_ret
            exact ⟨ret_bool BAD.out.symm, b2⟩
          · have GOOD := Lib.hid (show catOk l k ⟨code, unit, kind, lead, rule, size, safety, scrap⟩ = true by simp [catOk, q1, RI.out, txtLess, q2])
            go_wp2
            refine wp_region_ext (by kernel_rfl) (by kernel_rfl) ?_
            repeat (go_big_quiet_step ((go_at_call 63; exact ext_call (implIsItem ⟨code, unit, kind, lead, rule, size, safety, scrap⟩ _ s1 s2))))
            refine wpQuiet_nil ?_
            intro _ hw'; obtain ⟨nq, hw''⟩ := hw'; subst hw''
            have b2 := below_app (hb.alloc hz (Obj.cells #[.string code, .string unit, .int .i64 kind, .int .i64 lead, .int .i64 rule, .int .i64 size, .int .i64 safety, .int .i64 scrap] 64)) (below_wext _ nq) (by simp only [World.size_alloc]; omega)
            go_wp2
            go_roundw
            case rel => exact ⟨k + 1, by omega, by go_num, b2, ST.out GOOD.out⟩
            case measure => simp [intOf]; omega
        · have KZ := Lib.hid (show k = 0 by omega)
          have i7 : ¬ (0 : Int) < k := by omega
          have GOOD := Lib.hid (show catOk l k ⟨code, unit, kind, lead, rule, size, safety, scrap⟩ = true by rw [KZ.out]; simp [catOk, q1, rises_zero])
          go_wp2
          refine wp_region_ext (by kernel_rfl) (by kernel_rfl) ?_
          repeat (go_big_quiet_step ((go_at_call 63; exact ext_call (implIsItem ⟨code, unit, kind, lead, rule, size, safety, scrap⟩ _ s1 s2))))
          refine wpQuiet_nil ?_
          intro _ hw'; obtain ⟨nq, hw''⟩ := hw'; subst hw''
          have b2 := below_app (hb.alloc hz (Obj.cells #[.string code, .string unit, .int .i64 kind, .int .i64 lead, .int .i64 rule, .int .i64 size, .int .i64 safety, .int .i64 scrap] 64)) (below_wext _ nq) (by simp only [World.size_alloc]; omega)
          go_wp2
          go_roundw
          case rel => exact ⟨k + 1, by omega, by go_num, b2, ST.out GOOD.out⟩
          case measure => simp [intOf]; omega
    · obtain rfl : n = k := by omega
      have HH := Lib.hid (isCat_good (l := l) (fun j x hx => hgood.out j x (by rw [← hl.out]; exact (List.getElem?_eq_some_iff.1 hx).1) hx))
      clear hgood
      go_wp2_with fail
      go_ret
      exact ⟨ret_bool (by rw [HH.out, hl.out]; simp; try omega), hb⟩
set_option maxRecDepth 100000 in
set_option maxHeartbeats 4000000 in
theorem specIsCatalog (A : Option Addr) (n c : Nat) (l : List It) (w : World) (hr : RS w 8 A n (l.flatMap itCell)) (hn : n ≤ 9223372036854775807) (hok : ∀ x ∈ l, itOk x) :
    Calls Try.prog 31 #[.slice A n c] w fun e w' => e = .returned (.bool (isCat l)) ∧ Below w.heap.size w w' := by
  have hl := Lib.hid (hr.flatLen itCell_len (by omega))
  have OK := Lib.hid hok; clear hok
  go_enter Try.func31, Try.ntmps31
  go_wp2
  go_loopw [3] (fun i wr => ∃ k : Nat, k ≤ n ∧ i = .int .i64 k ∧ Below w.heap.size w wr ∧ Hid (∀ (j : Nat) (x : It), j < k → l[j]? = some x → catOk l j x = true)) (fun i _ => n - (intOf i).toNat)
  case atStart => exact ⟨0, Nat.zero_le _, rfl, Below.refl _ _, fun j x h => absurd h (Nat.not_lt_zero _)⟩
  case round =>
    obtain ⟨k, hk, rfl, hb, hgood⟩ := hrel
    have hz := hb.size
    by_cases hlt : k < n
    · obtain ⟨g, off, rfl, ⟨code, unit, kind, lead, rule, size, safety, scrap⟩, hx, hc0, hc1, hc2, hc3, hc4, hc5, hc6, hc7⟩ := (hr.below hb).itAt hlt
      have hok := OK.out _ (List.mem_of_getElem? hx)
      have s1 := hok.1
      have s2 := hok.2.1
      simp only at hc0 hc1 hc2 hc3 hc4 hc5 hc6 hc7 s1 s2
      clear hok
      have HX := Lib.hid hx; clear hx
      have i1 : (0 : Int) ≤ k := by omega
      have i2 : (k : Int) < n := by omega
      have step : catOk l k ⟨code, unit, kind, lead, rule, size, safety, scrap⟩ = true → ∀ (j : Nat) (y : It), j < k + 1 → l[j]? = some y → catOk l j y = true := fun h j y hj hy => by
        rcases Nat.lt_succ_iff_lt_or_eq.1 hj with h' | rfl
        · exact hgood.out j y h' hy
        · rw [HX.out] at hy; injection hy with hy; rw [← hy]; exact h
      have ST := Lib.hid step; clear step
      have c0 := cell_wext hc0
      have c1 := cell_wext hc1
      have c2 := cell_wext hc2
      have c3 := cell_wext hc3
      have c4 := cell_wext hc4
      have c5 := cell_wext hc5
      have c6 := cell_wext hc6
      have c7 := cell_wext hc7
      cases q1 : isItem ⟨code, unit, kind, lead, rule, size, safety, scrap⟩
      · have BAD := Lib.hid (isCat_bad HX.out (show catOk l k ⟨code, unit, kind, lead, rule, size, safety, scrap⟩ = false by simp [catOk, q1]))
        go_wp2
        refine wp_region_ext (by kernel_rfl) (by kernel_rfl) ?_
        repeat (go_big_quiet_step ((go_at_call 62; exact ext_call (specIsItem ⟨code, unit, kind, lead, rule, size, safety, scrap⟩ _ s1 s2))))
        refine wpQuiet_nil ?_
        intro _ hw'; obtain ⟨nq, hw''⟩ := hw'; subst hw''
        have b2 := below_app hb (below_wext _ nq) hz
        go_wp2
        go_ret
        exact ⟨ret_bool BAD.out.symm, b2⟩
      · by_cases hk0 : 0 < k
        · obtain ⟨g', off', he', ⟨code', unit', kind', lead', rule', size', safety', scrap'⟩, hx', hp0, hp1, hp2, hp3, hp4, hp5, hp6, hp7⟩ := (hr.below hb).itAt (show k - 1 < n by omega)
          injection he' with he'
          injection he' with e1 e2
          subst e1 e2
          simp only at hp0
          clear hp1 hp2 hp3 hp4 hp5 hp6 hp7
          have d0 := cell_wext hp0
          have RI := Lib.hid (rises_at (f := It.code) (s := code) hk0 hx'); clear hx'
          simp only at RI
          have i3 : (0 : Int) ≤ ((k : Int) - 1) := by omega
          have i4 : ((k : Int) - 1) < n := by omega
          have i5 : ((k : Int) - 1).toNat = k - 1 := by omega
          have i6 : ((k : Int)).toNat = k := by omega
          have i7 : (0 : Int) < k := by omega
          cases q2 : Op.bytesLess code'.toList code.toList
          · have BAD := Lib.hid (isCat_bad HX.out (show catOk l k ⟨code, unit, kind, lead, rule, size, safety, scrap⟩ = false by simp [catOk, q1, RI.out, txtLess, q2]))
            go_wp2
            refine wp_region_ext (by kernel_rfl) (by kernel_rfl) ?_
            repeat (go_big_quiet_step ((go_at_call 62; exact ext_call (specIsItem ⟨code, unit, kind, lead, rule, size, safety, scrap⟩ _ s1 s2))))
            refine wpQuiet_nil ?_
            intro _ hw'; obtain ⟨nq, hw''⟩ := hw'; subst hw''
            have b2 := below_app hb (below_wext _ nq) hz
            go_wp2
            go_ret
            exact ⟨ret_bool BAD.out.symm, b2⟩
          · have GOOD := Lib.hid (show catOk l k ⟨code, unit, kind, lead, rule, size, safety, scrap⟩ = true by simp [catOk, q1, RI.out, txtLess, q2])
            go_wp2
            refine wp_region_ext (by kernel_rfl) (by kernel_rfl) ?_
            repeat (go_big_quiet_step ((go_at_call 62; exact ext_call (specIsItem ⟨code, unit, kind, lead, rule, size, safety, scrap⟩ _ s1 s2))))
            refine wpQuiet_nil ?_
            intro _ hw'; obtain ⟨nq, hw''⟩ := hw'; subst hw''
            have b2 := below_app hb (below_wext _ nq) hz
            go_wp2
            go_roundw
            case rel => exact ⟨k + 1, by omega, by go_num, b2, ST.out GOOD.out⟩
            case measure => simp [intOf]; omega
        · have KZ := Lib.hid (show k = 0 by omega)
          have i7 : ¬ (0 : Int) < k := by omega
          have GOOD := Lib.hid (show catOk l k ⟨code, unit, kind, lead, rule, size, safety, scrap⟩ = true by rw [KZ.out]; simp [catOk, q1, rises_zero])
          go_wp2
          refine wp_region_ext (by kernel_rfl) (by kernel_rfl) ?_
          repeat (go_big_quiet_step ((go_at_call 62; exact ext_call (specIsItem ⟨code, unit, kind, lead, rule, size, safety, scrap⟩ _ s1 s2))))
          refine wpQuiet_nil ?_
          intro _ hw'; obtain ⟨nq, hw''⟩ := hw'; subst hw''
          have b2 := below_app hb (below_wext _ nq) hz
          go_wp2
          go_roundw
          case rel => exact ⟨k + 1, by omega, by go_num, b2, ST.out GOOD.out⟩
          case measure => simp [intOf]; omega
    · obtain rfl : n = k := by omega
      have HH := Lib.hid (isCat_good (l := l) (fun j x hx => hgood.out j x (by rw [← hl.out]; exact (List.getElem?_eq_some_iff.1 hx).1) hx))
      clear hgood
      go_wp2_with fail
      go_ret
      exact ⟨ret_bool (by rw [HH.out, hl.out]; simp; try omega), hb⟩
end Go.Proofs.Ytnhkpdaogclfjaa
