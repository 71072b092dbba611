/- Conditions: the walks of IsCond. No condition. -/
import Derived.Test.YtnhkpdaogclfjaaCondP
import Derived.Test.YtnhkpdaogclfjaaTextEq
namespace Go.Proofs.Ytnhkpdaogclfjaa
open Go.ChangeShapes Go.WideShapes Go.ChangeAt Go.RowKit

theorem empty_text {s : ByteArray} (h : s.size = 0) : s = ⟨#[]⟩ := by
  obtain ⟨d⟩ := s
  have : d.size = 0 := h
  rw [Array.size_eq_zero_iff.1 this]
theorem full_text {s : ByteArray} (h : ¬ s.size = 0) : ¬ s = ⟨#[]⟩ := fun e => h (by rw [e]; rfl)
theorem full_is {s : ByteArray} (h : ¬ s.size = 0) : s.toList.isEmpty = false := by
  cases he : s.toList with
  | nil => exact absurd (text_inj (b := ⟨#[]⟩) (he.trans (by rw [ByteArray.toList_eq]))) (full_text h)
  | cons => rfl
theorem isCond_big {l : List Cn} (h : 30 < l.length) : isCond l = false := by
  have : decide (l.length ≤ 30) = false := by simp; omega
  simp [isCond, this]
theorem isCond_few {l : List Cn} (h : l.length ≤ 30) : isCond l = condC 0 l := by simp [isCond, h]
theorem implOperands (k : Int) (w : World) : Calls Try.prog 87 #[.int .i64 k] w fun e w' => e = .returned (.int .i64 (cnNeed k)) ∧ w = w' := by
  rcases cnNeed_kinds k with ⟨rfl, hn⟩ | ⟨rfl, hn⟩ | ⟨rfl, hn⟩ | ⟨rfl, hn⟩ | ⟨rfl, hn⟩ | ⟨n0, n1, n2, n3, n4, hn⟩
  all_goals
    have HN := Lib.hid hn; clear hn
    go_enter Try.func87, Try.ntmps87
    go_wp2
    go_ret
    exact ⟨ret_int (by rw [HN.out]), rfl⟩
set_option maxRecDepth 100000 in
set_option maxHeartbeats 8000000 in
theorem implIsCond (A : Option Addr) (n c : Nat) (l : List Cn) (w : World) (hr : RS w 3 A n (l.flatMap cnCell)) (hn : n ≤ 9223372036854775807) (hok : ∀ x ∈ l, cnOk x) :
    Calls Try.prog 68 #[.slice A n c] w fun e w' => e = .returned (.bool (isCond l)) ∧ Below w.heap.size w w' := by
  have hl := Lib.hid (hr.flatLen cnCell_len (by omega))
  have OK := Lib.hid hok; clear hok
  by_cases hbig : 30 < n
  · have E0 := Lib.hid (isCond_big (l := l) (by rw [hl.out]; exact hbig))
    go_enter Try.func68, Try.ntmps68
    go_wp2_with fail
    go_ret
    exact ⟨ret_bool E0.out.symm, Below.refl _ _⟩
  have E0 := Lib.hid (isCond_few (l := l) (by rw [hl.out]; omega))
  have h30 : n ≤ 30 := by omega
  clear hbig
  go_enter Try.func68, Try.ntmps68
  go_wp2_with fail
  go_loopw [3, 12] (fun h i wr => ∃ (k : Nat) (a : Int), k ≤ n ∧ i = .int .i64 k ∧ h = .int .i64 a ∧ 0 ≤ a ∧ a ≤ k ∧ Below w.heap.size w wr ∧ Hid (condC 0 l = condC a (l.drop k))) (fun _ i _ => n - (intOf i).toNat)
  case atStart => exact ⟨0, 0, Nat.zero_le _, rfl, rfl, by omega, by omega, Below.refl _ _, by simp [Hid]⟩
  case round =>
    obtain ⟨k, a, hk, rfl, rfl, ha0, ha1, hb, hC⟩ := hrel
    have hz := hb.size
    by_cases hlt : k < n
    · obtain ⟨g, off, rfl, ⟨kind, opt, val⟩, hx, c0, c1, c2⟩ := (hr.below hb).cnAt hlt
      have hok := OK.out _ (List.mem_of_getElem? hx)
      have s1 := hok.2.1
      have s2 := hok.2.2
      simp only at c0 c1 c2 s1 s2
      have HX := Lib.hid (condC_at (h := a) hx)
      simp only at HX
      clear hok hx
      have i1 : (0 : Int) ≤ k := by omega
      have i2 : (k : Int) < n := by omega
      rcases cnNeed_kinds kind with ⟨rfl, hn⟩ | ⟨rfl, hn⟩ | ⟨rfl, hn⟩ | ⟨rfl, hn⟩ | ⟨rfl, hn⟩ | ⟨n0, n1, n2, n3, n4, hn⟩
      · have HN := Lib.hid hn; clear hn
        have GE := Lib.hid (show decide ((0 : Int) ≤ a) = true by simp; omega)
        by_cases e1 : opt.size = 0
        rotate_left
        · have ne1 := full_is e1
          have BAD := Lib.hid (show isCond l = false by rw [E0.out, hC.out, HX.out, HN.out]; rw [show cnText ⟨0, opt, val⟩ = false by simp [cnText, e1]]; simp)
          go_wp2_with (first | (go_at_call 87; refine (implOperands _ _).mono ?_; rw [HN.out]; rintro e w' ⟨rfl, rfl⟩) | (go_at_call 82; refine (implIsCode _ _ (by assumption)).mono ?_; rintro e w' ⟨rfl, rfl⟩))
          go_ret
          exact ⟨ret_bool BAD.out.symm, by first | exact hb | exact hb.alloc hz _⟩
        obtain rfl := empty_text e1
        clear e1
        by_cases e2 : val.size = 0
        rotate_left
        · have ne1 := full_is e2
          have BAD := Lib.hid (show isCond l = false by rw [E0.out, hC.out, HX.out, HN.out]; rw [show cnText ⟨0, ⟨#[]⟩, val⟩ = false by simp [cnText, e2]]; simp)
          go_wp2_with (first | (go_at_call 87; refine (implOperands _ _).mono ?_; rw [HN.out]; rintro e w' ⟨rfl, rfl⟩) | (go_at_call 82; refine (implIsCode _ _ (by assumption)).mono ?_; rintro e w' ⟨rfl, rfl⟩))
          go_ret
          exact ⟨ret_bool BAD.out.symm, by first | exact hb | exact hb.alloc hz _⟩
        obtain rfl := empty_text e2
        clear e2
        have TT : cnText ⟨0, ⟨#[]⟩, ⟨#[]⟩⟩ = true := by simp [cnText]; rfl
        have NX := Lib.hid (show condC 0 l = condC (a + 1) (l.drop (k + 1)) by rw [hC.out, HX.out, HN.out, TT, GE.out]; simp)
        clear TT GE
        go_wp2_with (first | (go_at_call 87; refine (implOperands _ _).mono ?_; rw [HN.out]; rintro e w' ⟨rfl, rfl⟩) | (go_at_call 82; refine (implIsCode _ _ (by assumption)).mono ?_; rintro e w' ⟨rfl, rfl⟩))
        go_roundw
        case rel => exact ⟨k + 1, a + 1, by omega, by go_num, by go_num, by omega, by omega, by first | exact hb | exact hb.alloc hz _, NX⟩
        case measure => simp [intOf]; omega
      · have HN := Lib.hid hn; clear hn
        have GE := Lib.hid (show decide ((0 : Int) ≤ a) = true by simp; omega)
        cases o1 : isCode opt
        · have BAD := Lib.hid (show isCond l = false by rw [E0.out, hC.out, HX.out, HN.out]; rw [show cnText ⟨1, opt, val⟩ = false by simp [cnText, o1]]; simp)
          go_wp2_with (first | (go_at_call 87; refine (implOperands _ _).mono ?_; rw [HN.out]; rintro e w' ⟨rfl, rfl⟩) | (go_at_call 82; refine (implIsCode _ _ (by assumption)).mono ?_; rintro e w' ⟨rfl, rfl⟩))
          go_ret
          exact ⟨ret_bool BAD.out.symm, by first | exact hb | exact hb.alloc hz _⟩
        cases o2 : isCode val
        · have BAD := Lib.hid (show isCond l = false by rw [E0.out, hC.out, HX.out, HN.out]; rw [show cnText ⟨1, opt, val⟩ = false by simp [cnText, o1, o2]]; simp)
          go_wp2_with (first | (go_at_call 87; refine (implOperands _ _).mono ?_; rw [HN.out]; rintro e w' ⟨rfl, rfl⟩) | (go_at_call 82; refine (implIsCode _ _ (by assumption)).mono ?_; rintro e w' ⟨rfl, rfl⟩))
          go_ret
          exact ⟨ret_bool BAD.out.symm, by first | exact hb | exact hb.alloc hz _⟩
        have TT : cnText ⟨1, opt, val⟩ = true := by simp [cnText, o1, o2]
        have NX := Lib.hid (show condC 0 l = condC (a + 1) (l.drop (k + 1)) by rw [hC.out, HX.out, HN.out, TT, GE.out]; simp)
        clear TT GE
        go_wp2_with (first | (go_at_call 87; refine (implOperands _ _).mono ?_; rw [HN.out]; rintro e w' ⟨rfl, rfl⟩) | (go_at_call 82; refine (implIsCode _ _ (by assumption)).mono ?_; rintro e w' ⟨rfl, rfl⟩))
        go_roundw
        case rel => exact ⟨k + 1, a + 1, by omega, by go_num, by go_num, by omega, by omega, by first | exact hb | exact hb.alloc hz _, NX⟩
        case measure => simp [intOf]; omega
      · have HN := Lib.hid hn; clear hn
        by_cases hv : a < 1
        · have BAD := Lib.hid (show isCond l = false by rw [E0.out, hC.out, HX.out, HN.out]; rw [show decide ((1 : Int) ≤ a) = false by simp; omega]; simp)
          go_wp2_with (first | (go_at_call 87; refine (implOperands _ _).mono ?_; rw [HN.out]; rintro e w' ⟨rfl, rfl⟩) | (go_at_call 82; refine (implIsCode _ _ (by assumption)).mono ?_; rintro e w' ⟨rfl, rfl⟩))
          go_ret
          exact ⟨ret_bool BAD.out.symm, by first | exact hb | exact hb.alloc hz _⟩
        have ge : 1 ≤ a := by omega
        clear hv
        have GE := Lib.hid (show decide ((1 : Int) ≤ a) = true by simp; omega)
        by_cases e1 : opt.size = 0
        rotate_left
        · have ne1 := full_is e1
          have BAD := Lib.hid (show isCond l = false by rw [E0.out, hC.out, HX.out, HN.out]; rw [show cnText ⟨2, opt, val⟩ = false by simp [cnText, e1]]; simp)
          go_wp2_with (first | (go_at_call 87; refine (implOperands _ _).mono ?_; rw [HN.out]; rintro e w' ⟨rfl, rfl⟩) | (go_at_call 82; refine (implIsCode _ _ (by assumption)).mono ?_; rintro e w' ⟨rfl, rfl⟩))
          go_ret
          exact ⟨ret_bool BAD.out.symm, by first | exact hb | exact hb.alloc hz _⟩
        obtain rfl := empty_text e1
        clear e1
        by_cases e2 : val.size = 0
        rotate_left
        · have ne1 := full_is e2
          have BAD := Lib.hid (show isCond l = false by rw [E0.out, hC.out, HX.out, HN.out]; rw [show cnText ⟨2, ⟨#[]⟩, val⟩ = false by simp [cnText, e2]]; simp)
          go_wp2_with (first | (go_at_call 87; refine (implOperands _ _).mono ?_; rw [HN.out]; rintro e w' ⟨rfl, rfl⟩) | (go_at_call 82; refine (implIsCode _ _ (by assumption)).mono ?_; rintro e w' ⟨rfl, rfl⟩))
          go_ret
          exact ⟨ret_bool BAD.out.symm, by first | exact hb | exact hb.alloc hz _⟩
        obtain rfl := empty_text e2
        clear e2
        have TT : cnText ⟨2, ⟨#[]⟩, ⟨#[]⟩⟩ = true := by simp [cnText]; rfl
        have NX := Lib.hid (show condC 0 l = condC (a) (l.drop (k + 1)) by rw [hC.out, HX.out, HN.out, TT, GE.out]; simp)
        clear TT GE
        go_wp2_with (first | (go_at_call 87; refine (implOperands _ _).mono ?_; rw [HN.out]; rintro e w' ⟨rfl, rfl⟩) | (go_at_call 82; refine (implIsCode _ _ (by assumption)).mono ?_; rintro e w' ⟨rfl, rfl⟩))
        go_roundw
        case rel => exact ⟨k + 1, a, by omega, by go_num, by go_num, by omega, by omega, by first | exact hb | exact hb.alloc hz _, NX⟩
        case measure => simp [intOf]; omega
      · have HN := Lib.hid hn; clear hn
        by_cases hv : a < 2
        · have BAD := Lib.hid (show isCond l = false by rw [E0.out, hC.out, HX.out, HN.out]; rw [show decide ((2 : Int) ≤ a) = false by simp; omega]; simp)
          go_wp2_with (first | (go_at_call 87; refine (implOperands _ _).mono ?_; rw [HN.out]; rintro e w' ⟨rfl, rfl⟩) | (go_at_call 82; refine (implIsCode _ _ (by assumption)).mono ?_; rintro e w' ⟨rfl, rfl⟩))
          go_ret
          exact ⟨ret_bool BAD.out.symm, by first | exact hb | exact hb.alloc hz _⟩
        have ge : 2 ≤ a := by omega
        clear hv
        have GE := Lib.hid (show decide ((2 : Int) ≤ a) = true by simp; omega)
        by_cases e1 : opt.size = 0
        rotate_left
        · have ne1 := full_is e1
          have BAD := Lib.hid (show isCond l = false by rw [E0.out, hC.out, HX.out, HN.out]; rw [show cnText ⟨3, opt, val⟩ = false by simp [cnText, e1]]; simp)
          go_wp2_with (first | (go_at_call 87; refine (implOperands _ _).mono ?_; rw [HN.out]; rintro e w' ⟨rfl, rfl⟩) | (go_at_call 82; refine (implIsCode _ _ (by assumption)).mono ?_; rintro e w' ⟨rfl, rfl⟩))
          go_ret
          exact ⟨ret_bool BAD.out.symm, by first | exact hb | exact hb.alloc hz _⟩
        obtain rfl := empty_text e1
        clear e1
        by_cases e2 : val.size = 0
        rotate_left
        · have ne1 := full_is e2
          have BAD := Lib.hid (show isCond l = false by rw [E0.out, hC.out, HX.out, HN.out]; rw [show cnText ⟨3, ⟨#[]⟩, val⟩ = false by simp [cnText, e2]]; simp)
          go_wp2_with (first | (go_at_call 87; refine (implOperands _ _).mono ?_; rw [HN.out]; rintro e w' ⟨rfl, rfl⟩) | (go_at_call 82; refine (implIsCode _ _ (by assumption)).mono ?_; rintro e w' ⟨rfl, rfl⟩))
          go_ret
          exact ⟨ret_bool BAD.out.symm, by first | exact hb | exact hb.alloc hz _⟩
        obtain rfl := empty_text e2
        clear e2
        have TT : cnText ⟨3, ⟨#[]⟩, ⟨#[]⟩⟩ = true := by simp [cnText]; rfl
        have NX := Lib.hid (show condC 0 l = condC (a - 1) (l.drop (k + 1)) by rw [hC.out, HX.out, HN.out, TT, GE.out]; simp; rfl)
        clear TT GE
        go_wp2_with (first | (go_at_call 87; refine (implOperands _ _).mono ?_; rw [HN.out]; rintro e w' ⟨rfl, rfl⟩) | (go_at_call 82; refine (implIsCode _ _ (by assumption)).mono ?_; rintro e w' ⟨rfl, rfl⟩))
        go_roundw
        case rel => exact ⟨k + 1, a - 1, by omega, by go_num, by go_num, by omega, by omega, by first | exact hb | exact hb.alloc hz _, NX⟩
        case measure => simp [intOf]; omega
      · have HN := Lib.hid hn; clear hn
        by_cases hv : a < 2
        · have BAD := Lib.hid (show isCond l = false by rw [E0.out, hC.out, HX.out, HN.out]; rw [show decide ((2 : Int) ≤ a) = false by simp; omega]; simp)
          go_wp2_with (first | (go_at_call 87; refine (implOperands _ _).mono ?_; rw [HN.out]; rintro e w' ⟨rfl, rfl⟩) | (go_at_call 82; refine (implIsCode _ _ (by assumption)).mono ?_; rintro e w' ⟨rfl, rfl⟩))
          go_ret
          exact ⟨ret_bool BAD.out.symm, by first | exact hb | exact hb.alloc hz _⟩
        have ge : 2 ≤ a := by omega
        clear hv
        have GE := Lib.hid (show decide ((2 : Int) ≤ a) = true by simp; omega)
        by_cases e1 : opt.size = 0
        rotate_left
        · have ne1 := full_is e1
          have BAD := Lib.hid (show isCond l = false by rw [E0.out, hC.out, HX.out, HN.out]; rw [show cnText ⟨4, opt, val⟩ = false by simp [cnText, e1]]; simp)
          go_wp2_with (first | (go_at_call 87; refine (implOperands _ _).mono ?_; rw [HN.out]; rintro e w' ⟨rfl, rfl⟩) | (go_at_call 82; refine (implIsCode _ _ (by assumption)).mono ?_; rintro e w' ⟨rfl, rfl⟩))
          go_ret
          exact ⟨ret_bool BAD.out.symm, by first | exact hb | exact hb.alloc hz _⟩
        obtain rfl := empty_text e1
        clear e1
        by_cases e2 : val.size = 0
        rotate_left
        · have ne1 := full_is e2
          have BAD := Lib.hid (show isCond l = false by rw [E0.out, hC.out, HX.out, HN.out]; rw [show cnText ⟨4, ⟨#[]⟩, val⟩ = false by simp [cnText, e2]]; simp)
          go_wp2_with (first | (go_at_call 87; refine (implOperands _ _).mono ?_; rw [HN.out]; rintro e w' ⟨rfl, rfl⟩) | (go_at_call 82; refine (implIsCode _ _ (by assumption)).mono ?_; rintro e w' ⟨rfl, rfl⟩))
          go_ret
          exact ⟨ret_bool BAD.out.symm, by first | exact hb | exact hb.alloc hz _⟩
        obtain rfl := empty_text e2
        clear e2
        have TT : cnText ⟨4, ⟨#[]⟩, ⟨#[]⟩⟩ = true := by simp [cnText]; rfl
        have NX := Lib.hid (show condC 0 l = condC (a - 1) (l.drop (k + 1)) by rw [hC.out, HX.out, HN.out, TT, GE.out]; simp; rfl)
        clear TT GE
        go_wp2_with (first | (go_at_call 87; refine (implOperands _ _).mono ?_; rw [HN.out]; rintro e w' ⟨rfl, rfl⟩) | (go_at_call 82; refine (implIsCode _ _ (by assumption)).mono ?_; rintro e w' ⟨rfl, rfl⟩))
        go_roundw
        case rel => exact ⟨k + 1, a - 1, by omega, by go_num, by go_num, by omega, by omega, by first | exact hb | exact hb.alloc hz _, NX⟩
        case measure => simp [intOf]; omega
      · have BAD := Lib.hid (show isCond l = false by rw [E0.out, hC.out, HX.out, hn]; rfl)
        have q0 : (kind == 0) = false := by simpa using n0
        have q1 : (kind == 1) = false := by simpa using n1
        have q2 : (kind == 2) = false := by simpa using n2
        have q3 : (kind == 3) = false := by simpa using n3
        have q4 : (kind == 4) = false := by simpa using n4
        have HN := Lib.hid hn
        clear hn n0 n1 n2 n3 n4
        go_wp2_with (first | (go_at_call 87; refine (implOperands _ _).mono ?_; rw [HN.out]; rintro e w' ⟨rfl, rfl⟩) | (go_at_call 82; refine (implIsCode _ _ (by assumption)).mono ?_; rintro e w' ⟨rfl, rfl⟩))
        go_ret
        exact ⟨ret_bool BAD.out.symm, by first | exact hb | exact hb.alloc hz _⟩
    · obtain rfl : n = k := by omega
      have DR : l.drop n = [] := List.drop_eq_nil_of_le (by rw [hl.out]; exact Nat.le_refl _)
      have R := Lib.hid (show isCond l = decide (a = 1) by rw [E0.out, hC.out, DR]; rfl)
      clear DR
      by_cases h1 : a = 1
      · subst h1
        go_wp2_with fail
        go_ret
        exact ⟨ret_bool (by rw [R.out]; rfl), hb⟩
      · have q1 : (a == 1) = false := by simpa using h1
        go_wp2_with fail
        go_ret
        exact ⟨ret_bool (by rw [R.out]; simp [h1]), hb⟩
set_option maxRecDepth 100000 in
set_option maxHeartbeats 8000000 in
theorem specIsCond (A : Option Addr) (n c : Nat) (l : List Cn) (w : World) (hr : RS w 3 A n (l.flatMap cnCell)) (hn : n ≤ 9223372036854775807) (hok : ∀ x ∈ l, cnOk x) :
    Calls Try.prog 65 #[.slice A n c] w fun e w' => e = .returned (.bool (isCond l)) ∧ Below w.heap.size w w' := by
  have hl := Lib.hid (hr.flatLen cnCell_len (by omega))
  have OK := Lib.hid hok; clear hok
  by_cases hbig : 30 < n
  · have E0 := Lib.hid (isCond_big (l := l) (by rw [hl.out]; exact hbig))
    have g1 : (0 : Int) < n := by omega
    go_enter Try.func65, Try.ntmps65
    go_wp2_with fail
    go_loopw [3, 4] (fun h i wr => h = .int .i64 0 ∧ i = .int .i64 0 ∧ wr = w) (fun _ _ _ => 0)
    case atStart => exact ⟨rfl, rfl, rfl⟩
    case round =>
      obtain ⟨rfl, rfl, rfl⟩ := hrel
      go_wp2_with fail
      go_ret
      exact ⟨ret_bool E0.out.symm, Below.refl _ _⟩
  have E0 := Lib.hid (isCond_few (l := l) (by rw [hl.out]; omega))
  have h30 : n ≤ 30 := by omega
  clear hbig
  go_enter Try.func65, Try.ntmps65
  go_wp2_with fail
  go_loopw [3, 4] (fun h i wr => ∃ (k : Nat) (a : Int), k ≤ n ∧ i = .int .i64 k ∧ h = .int .i64 a ∧ 0 ≤ a ∧ a ≤ k ∧ Below w.heap.size w wr ∧ Hid (condC 0 l = condC a (l.drop k))) (fun _ i _ => n - (intOf i).toNat)
  case atStart => exact ⟨0, 0, Nat.zero_le _, rfl, rfl, by omega, by omega, Below.refl _ _, by simp [Hid]⟩
  case round =>
    obtain ⟨k, a, hk, rfl, rfl, ha0, ha1, hb, hC⟩ := hrel
    have hz := hb.size
    by_cases hlt : k < n
    · obtain ⟨g, off, rfl, ⟨kind, opt, val⟩, hx, c0, c1, c2⟩ := (hr.below hb).cnAt hlt
      have hok := OK.out _ (List.mem_of_getElem? hx)
      have s1 := hok.2.1
      have s2 := hok.2.2
      simp only at c0 c1 c2 s1 s2
      have HX := Lib.hid (condC_at (h := a) hx)
      simp only at HX
      clear hok hx
      have i1 : (0 : Int) ≤ k := by omega
      have i2 : (k : Int) < n := by omega
      rcases cnNeed_kinds kind with ⟨rfl, hn⟩ | ⟨rfl, hn⟩ | ⟨rfl, hn⟩ | ⟨rfl, hn⟩ | ⟨rfl, hn⟩ | ⟨n0, n1, n2, n3, n4, hn⟩
      · have HN := Lib.hid hn; clear hn
        have GE := Lib.hid (show decide ((0 : Int) ≤ a) = true by simp; omega)
        by_cases e1 : opt.size = 0
        rotate_left
        · have ne1 := full_is e1
          have BAD := Lib.hid (show isCond l = false by rw [E0.out, hC.out, HX.out, HN.out]; rw [show cnText ⟨0, opt, val⟩ = false by simp [cnText, e1]]; simp)
          go_wp2_with (first | (go_at_call 81; refine (specIsCode _ _ (by assumption)).mono ?_; rintro e w' ⟨rfl, rfl⟩))
          go_ret
          exact ⟨ret_bool BAD.out.symm, by first | exact hb | exact hb.alloc hz _⟩
        obtain rfl := empty_text e1
        clear e1
        by_cases e2 : val.size = 0
        rotate_left
        · have ne1 := full_is e2
          have BAD := Lib.hid (show isCond l = false by rw [E0.out, hC.out, HX.out, HN.out]; rw [show cnText ⟨0, ⟨#[]⟩, val⟩ = false by simp [cnText, e2]]; simp)
          go_wp2_with (first | (go_at_call 81; refine (specIsCode _ _ (by assumption)).mono ?_; rintro e w' ⟨rfl, rfl⟩))
          go_ret
          exact ⟨ret_bool BAD.out.symm, by first | exact hb | exact hb.alloc hz _⟩
        obtain rfl := empty_text e2
        clear e2
        have TT : cnText ⟨0, ⟨#[]⟩, ⟨#[]⟩⟩ = true := by simp [cnText]; rfl
        have NX := Lib.hid (show condC 0 l = condC (a + 1) (l.drop (k + 1)) by rw [hC.out, HX.out, HN.out, TT, GE.out]; simp)
        clear TT GE
        go_wp2_with (first | (go_at_call 81; refine (specIsCode _ _ (by assumption)).mono ?_; rintro e w' ⟨rfl, rfl⟩))
        go_roundw
        case rel => exact ⟨k + 1, a + 1, by omega, by go_num, by go_num, by omega, by omega, by first | exact hb | exact hb.alloc hz _, NX⟩
        case measure => simp [intOf]; omega
      · have HN := Lib.hid hn; clear hn
        have GE := Lib.hid (show decide ((0 : Int) ≤ a) = true by simp; omega)
        cases o1 : isCode opt
        · have BAD := Lib.hid (show isCond l = false by rw [E0.out, hC.out, HX.out, HN.out]; rw [show cnText ⟨1, opt, val⟩ = false by simp [cnText, o1]]; simp)
          go_wp2_with (first | (go_at_call 81; refine (specIsCode _ _ (by assumption)).mono ?_; rintro e w' ⟨rfl, rfl⟩))
          go_ret
          exact ⟨ret_bool BAD.out.symm, by first | exact hb | exact hb.alloc hz _⟩
        cases o2 : isCode val
        · have BAD := Lib.hid (show isCond l = false by rw [E0.out, hC.out, HX.out, HN.out]; rw [show cnText ⟨1, opt, val⟩ = false by simp [cnText, o1, o2]]; simp)
          go_wp2_with (first | (go_at_call 81; refine (specIsCode _ _ (by assumption)).mono ?_; rintro e w' ⟨rfl, rfl⟩))
          go_ret
          exact ⟨ret_bool BAD.out.symm, by first | exact hb | exact hb.alloc hz _⟩
        have TT : cnText ⟨1, opt, val⟩ = true := by simp [cnText, o1, o2]
        have NX := Lib.hid (show condC 0 l = condC (a + 1) (l.drop (k + 1)) by rw [hC.out, HX.out, HN.out, TT, GE.out]; simp)
        clear TT GE
        go_wp2_with (first | (go_at_call 81; refine (specIsCode _ _ (by assumption)).mono ?_; rintro e w' ⟨rfl, rfl⟩))
        go_roundw
        case rel => exact ⟨k + 1, a + 1, by omega, by go_num, by go_num, by omega, by omega, by first | exact hb | exact hb.alloc hz _, NX⟩
        case measure => simp [intOf]; omega
      · have HN := Lib.hid hn; clear hn
        by_cases hv : a < 1
        · have BAD := Lib.hid (show isCond l = false by rw [E0.out, hC.out, HX.out, HN.out]; rw [show decide ((1 : Int) ≤ a) = false by simp; omega]; simp)
          go_wp2_with (first | (go_at_call 81; refine (specIsCode _ _ (by assumption)).mono ?_; rintro e w' ⟨rfl, rfl⟩))
          go_ret
          exact ⟨ret_bool BAD.out.symm, by first | exact hb | exact hb.alloc hz _⟩
        have ge : 1 ≤ a := by omega
        clear hv
        have GE := Lib.hid (show decide ((1 : Int) ≤ a) = true by simp; omega)
        by_cases e1 : opt.size = 0
        rotate_left
        · have ne1 := full_is e1
          have BAD := Lib.hid (show isCond l = false by rw [E0.out, hC.out, HX.out, HN.out]; rw [show cnText ⟨2, opt, val⟩ = false by simp [cnText, e1]]; simp)
          go_wp2_with (first | (go_at_call 81; refine (specIsCode _ _ (by assumption)).mono ?_; rintro e w' ⟨rfl, rfl⟩))
          go_ret
          exact ⟨ret_bool BAD.out.symm, by first | exact hb | exact hb.alloc hz _⟩
        obtain rfl := empty_text e1
        clear e1
        by_cases e2 : val.size = 0
        rotate_left
        · have ne1 := full_is e2
          have BAD := Lib.hid (show isCond l = false by rw [E0.out, hC.out, HX.out, HN.out]; rw [show cnText ⟨2, ⟨#[]⟩, val⟩ = false by simp [cnText, e2]]; simp)
          go_wp2_with (first | (go_at_call 81; refine (specIsCode _ _ (by assumption)).mono ?_; rintro e w' ⟨rfl, rfl⟩))
          go_ret
          exact ⟨ret_bool BAD.out.symm, by first | exact hb | exact hb.alloc hz _⟩
        obtain rfl := empty_text e2
        clear e2
        have TT : cnText ⟨2, ⟨#[]⟩, ⟨#[]⟩⟩ = true := by simp [cnText]; rfl
        have NX := Lib.hid (show condC 0 l = condC (a) (l.drop (k + 1)) by rw [hC.out, HX.out, HN.out, TT, GE.out]; simp)
        clear TT GE
        go_wp2_with (first | (go_at_call 81; refine (specIsCode _ _ (by assumption)).mono ?_; rintro e w' ⟨rfl, rfl⟩))
        go_roundw
        case rel => exact ⟨k + 1, a, by omega, by go_num, by go_num, by omega, by omega, by first | exact hb | exact hb.alloc hz _, NX⟩
        case measure => simp [intOf]; omega
      · have HN := Lib.hid hn; clear hn
        by_cases hv : a < 2
        · have BAD := Lib.hid (show isCond l = false by rw [E0.out, hC.out, HX.out, HN.out]; rw [show decide ((2 : Int) ≤ a) = false by simp; omega]; simp)
          go_wp2_with (first | (go_at_call 81; refine (specIsCode _ _ (by assumption)).mono ?_; rintro e w' ⟨rfl, rfl⟩))
          go_ret
          exact ⟨ret_bool BAD.out.symm, by first | exact hb | exact hb.alloc hz _⟩
        have ge : 2 ≤ a := by omega
        clear hv
        have GE := Lib.hid (show decide ((2 : Int) ≤ a) = true by simp; omega)
        by_cases e1 : opt.size = 0
        rotate_left
        · have ne1 := full_is e1
          have BAD := Lib.hid (show isCond l = false by rw [E0.out, hC.out, HX.out, HN.out]; rw [show cnText ⟨3, opt, val⟩ = false by simp [cnText, e1]]; simp)
          go_wp2_with (first | (go_at_call 81; refine (specIsCode _ _ (by assumption)).mono ?_; rintro e w' ⟨rfl, rfl⟩))
          go_ret
          exact ⟨ret_bool BAD.out.symm, by first | exact hb | exact hb.alloc hz _⟩
        obtain rfl := empty_text e1
        clear e1
        by_cases e2 : val.size = 0
        rotate_left
        · have ne1 := full_is e2
          have BAD := Lib.hid (show isCond l = false by rw [E0.out, hC.out, HX.out, HN.out]; rw [show cnText ⟨3, ⟨#[]⟩, val⟩ = false by simp [cnText, e2]]; simp)
          go_wp2_with (first | (go_at_call 81; refine (specIsCode _ _ (by assumption)).mono ?_; rintro e w' ⟨rfl, rfl⟩))
          go_ret
          exact ⟨ret_bool BAD.out.symm, by first | exact hb | exact hb.alloc hz _⟩
        obtain rfl := empty_text e2
        clear e2
        have TT : cnText ⟨3, ⟨#[]⟩, ⟨#[]⟩⟩ = true := by simp [cnText]; rfl
        have NX := Lib.hid (show condC 0 l = condC (a - 1) (l.drop (k + 1)) by rw [hC.out, HX.out, HN.out, TT, GE.out]; simp; rfl)
        clear TT GE
        go_wp2_with (first | (go_at_call 81; refine (specIsCode _ _ (by assumption)).mono ?_; rintro e w' ⟨rfl, rfl⟩))
        go_roundw
        case rel => exact ⟨k + 1, a - 1, by omega, by go_num, by go_num, by omega, by omega, by first | exact hb | exact hb.alloc hz _, NX⟩
        case measure => simp [intOf]; omega
      · have HN := Lib.hid hn; clear hn
        by_cases hv : a < 2
        · have BAD := Lib.hid (show isCond l = false by rw [E0.out, hC.out, HX.out, HN.out]; rw [show decide ((2 : Int) ≤ a) = false by simp; omega]; simp)
          go_wp2_with (first | (go_at_call 81; refine (specIsCode _ _ (by assumption)).mono ?_; rintro e w' ⟨rfl, rfl⟩))
          go_ret
          exact ⟨ret_bool BAD.out.symm, by first | exact hb | exact hb.alloc hz _⟩
        have ge : 2 ≤ a := by omega
        clear hv
        have GE := Lib.hid (show decide ((2 : Int) ≤ a) = true by simp; omega)
        by_cases e1 : opt.size = 0
        rotate_left
        · have ne1 := full_is e1
          have BAD := Lib.hid (show isCond l = false by rw [E0.out, hC.out, HX.out, HN.out]; rw [show cnText ⟨4, opt, val⟩ = false by simp [cnText, e1]]; simp)
          go_wp2_with (first | (go_at_call 81; refine (specIsCode _ _ (by assumption)).mono ?_; rintro e w' ⟨rfl, rfl⟩))
          go_ret
          exact ⟨ret_bool BAD.out.symm, by first | exact hb | exact hb.alloc hz _⟩
        obtain rfl := empty_text e1
        clear e1
        by_cases e2 : val.size = 0
        rotate_left
        · have ne1 := full_is e2
          have BAD := Lib.hid (show isCond l = false by rw [E0.out, hC.out, HX.out, HN.out]; rw [show cnText ⟨4, ⟨#[]⟩, val⟩ = false by simp [cnText, e2]]; simp)
          go_wp2_with (first | (go_at_call 81; refine (specIsCode _ _ (by assumption)).mono ?_; rintro e w' ⟨rfl, rfl⟩))
          go_ret
          exact ⟨ret_bool BAD.out.symm, by first | exact hb | exact hb.alloc hz _⟩
        obtain rfl := empty_text e2
        clear e2
        have TT : cnText ⟨4, ⟨#[]⟩, ⟨#[]⟩⟩ = true := by simp [cnText]; rfl
        have NX := Lib.hid (show condC 0 l = condC (a - 1) (l.drop (k + 1)) by rw [hC.out, HX.out, HN.out, TT, GE.out]; simp; rfl)
        clear TT GE
        go_wp2_with (first | (go_at_call 81; refine (specIsCode _ _ (by assumption)).mono ?_; rintro e w' ⟨rfl, rfl⟩))
        go_roundw
        case rel => exact ⟨k + 1, a - 1, by omega, by go_num, by go_num, by omega, by omega, by first | exact hb | exact hb.alloc hz _, NX⟩
        case measure => simp [intOf]; omega
      · have BAD := Lib.hid (show isCond l = false by rw [E0.out, hC.out, HX.out, hn]; rfl)
        have q0 : (kind == 0) = false := by simpa using n0
        have q1 : (kind == 1) = false := by simpa using n1
        have q2 : (kind == 2) = false := by simpa using n2
        have q3 : (kind == 3) = false := by simpa using n3
        have q4 : (kind == 4) = false := by simpa using n4
        have HN := Lib.hid hn
        clear hn n0 n1 n2 n3 n4
        go_wp2_with (first | (go_at_call 81; refine (specIsCode _ _ (by assumption)).mono ?_; rintro e w' ⟨rfl, rfl⟩))
        go_ret
        exact ⟨ret_bool BAD.out.symm, by first | exact hb | exact hb.alloc hz _⟩
    · obtain rfl : n = k := by omega
      have DR : l.drop n = [] := List.drop_eq_nil_of_le (by rw [hl.out]; exact Nat.le_refl _)
      have R := Lib.hid (show isCond l = decide (a = 1) by rw [E0.out, hC.out, DR]; rfl)
      clear DR
      by_cases h1 : a = 1
      · subst h1
        go_wp2_with fail
        go_ret
        exact ⟨ret_bool (by rw [R.out]; simp; omega), hb⟩
      · have q1 : (a == 1) = false := by simpa using h1
        go_wp2_with fail
        go_ret
        exact ⟨ret_bool (by rw [R.out]; simp [h1]), hb⟩
end Go.Proofs.Ytnhkpdaogclfjaa
