/- Items: the plain words, and the walks of IsItem. -/
import Derived.Test.YtnhkpdaogclfjaaSItem
import Derived.Test.YtnhkpdaogclfjaaText
import Derived.Laws.Cover1
namespace Go.Proofs.Ytnhkpdaogclfjaa
open Go.ChangeShapes Go.WideShapes Go.ChangeAt Go.RowKit

def lotRule (r s : Int) : Bool := (r == 0 && s == 0) || ((r == 1 || r == 2) && inB s 1 1000)
def isItem (x : It) : Bool := isCode x.code && (isCode x.unit && (inB x.kind 0 2 && (inB x.lead 0 30 && (inB x.safety 0 100000 && (inB x.scrap 0 50 && (lotRule x.rule x.size && (x.kind != 2 || (x.lead == 0 && (x.rule == 0 && (x.safety == 0 && x.scrap == 0))))))))))
set_option maxHeartbeats 1000000 in
theorem implLot (r s : Int) (w : World) : Calls Try.prog 83 #[.int .i64 r, .int .i64 s] w fun e w' => e = .returned (.bool (lotRule r s)) ∧ w = w' := by
  by_cases h0 : r = 0
  · subst h0
    cases h1 : s == 0
    all_goals
      go_enter Try.func83, Try.ntmps83
      go_wp2_with (go_at_call 36; refine (impl_in _ _ _ _).mono ?_; rintro e w' ⟨rfl, rfl⟩)
      go_ret
      exact ⟨ret_bool (by simp [lotRule, h1]), rfl⟩
  have n0 : (r == 0) = false := by simpa using h0
  clear h0
  cases h1 : r == 1
  · cases h2 : r == 2
    all_goals
      go_enter Try.func83, Try.ntmps83
      go_wp2_with (go_at_call 36; refine (impl_in _ _ _ _).mono ?_; rintro e w' ⟨rfl, rfl⟩)
      go_ret
      exact ⟨ret_bool (by simp [lotRule, n0, h1, h2]), rfl⟩
  · go_enter Try.func83, Try.ntmps83
    go_wp2_with (go_at_call 36; refine (impl_in _ _ _ _).mono ?_; rintro e w' ⟨rfl, rfl⟩)
    go_ret
    exact ⟨ret_bool (by simp [lotRule, n0, h1]), rfl⟩
set_option maxRecDepth 100000 in
set_option maxHeartbeats 8000000 in
theorem implIsItem (x : It) (w : World) (hs : x.code.size ≤ 9223372036854775807) (hu : x.unit.size ≤ 9223372036854775807) : Calls Try.prog 63 #[itAgg x] w fun e' w' => e' = .returned (.bool (isItem x)) ∧ Below w.heap.size w w' := by
  obtain ⟨code, unit, kind, lead, rule, size, safety, scrap⟩ := x
  simp only at hs hu ⊢
  cases h1 : isCode code
  · go_enter Try.func63, Try.ntmps63
    go_wp2_with (first | (go_at_call 36; refine (impl_in _ _ _ _).mono ?_; rintro e w' ⟨rfl, rfl⟩) | (go_at_call 82; refine (implIsCode _ _ (by assumption)).mono ?_; rintro e w' ⟨rfl, rfl⟩) | (go_at_call 83; refine (implLot _ _ _).mono ?_; rintro e w' ⟨rfl, rfl⟩))
    go_ret
    exact ⟨ret_bool (by simp [isItem, lotRule, h1]), by go_grown⟩
  cases h2 : isCode unit
  · go_enter Try.func63, Try.ntmps63
    go_wp2_with (first | (go_at_call 36; refine (impl_in _ _ _ _).mono ?_; rintro e w' ⟨rfl, rfl⟩) | (go_at_call 82; refine (implIsCode _ _ (by assumption)).mono ?_; rintro e w' ⟨rfl, rfl⟩) | (go_at_call 83; refine (implLot _ _ _).mono ?_; rintro e w' ⟨rfl, rfl⟩))
    go_ret
    exact ⟨ret_bool (by simp [isItem, lotRule, h1, h2]), by go_grown⟩
  cases h3 : inB kind 0 2
  · go_enter Try.func63, Try.ntmps63
    go_wp2_with (first | (go_at_call 36; refine (impl_in _ _ _ _).mono ?_; rintro e w' ⟨rfl, rfl⟩) | (go_at_call 82; refine (implIsCode _ _ (by assumption)).mono ?_; rintro e w' ⟨rfl, rfl⟩) | (go_at_call 83; refine (implLot _ _ _).mono ?_; rintro e w' ⟨rfl, rfl⟩))
    go_ret
    exact ⟨ret_bool (by simp [isItem, lotRule, h1, h2, h3]), by go_grown⟩
  cases h4 : inB lead 0 30
  · go_enter Try.func63, Try.ntmps63
    go_wp2_with (first | (go_at_call 36; refine (impl_in _ _ _ _).mono ?_; rintro e w' ⟨rfl, rfl⟩) | (go_at_call 82; refine (implIsCode _ _ (by assumption)).mono ?_; rintro e w' ⟨rfl, rfl⟩) | (go_at_call 83; refine (implLot _ _ _).mono ?_; rintro e w' ⟨rfl, rfl⟩))
    go_ret
    exact ⟨ret_bool (by simp [isItem, lotRule, h1, h2, h3, h4]), by go_grown⟩
  cases h5 : inB safety 0 100000
  · go_enter Try.func63, Try.ntmps63
    go_wp2_with (first | (go_at_call 36; refine (impl_in _ _ _ _).mono ?_; rintro e w' ⟨rfl, rfl⟩) | (go_at_call 82; refine (implIsCode _ _ (by assumption)).mono ?_; rintro e w' ⟨rfl, rfl⟩) | (go_at_call 83; refine (implLot _ _ _).mono ?_; rintro e w' ⟨rfl, rfl⟩))
    go_ret
    exact ⟨ret_bool (by simp [isItem, lotRule, h1, h2, h3, h4, h5]), by go_grown⟩
  cases h6 : inB scrap 0 50
  · go_enter Try.func63, Try.ntmps63
    go_wp2_with (first | (go_at_call 36; refine (impl_in _ _ _ _).mono ?_; rintro e w' ⟨rfl, rfl⟩) | (go_at_call 82; refine (implIsCode _ _ (by assumption)).mono ?_; rintro e w' ⟨rfl, rfl⟩) | (go_at_call 83; refine (implLot _ _ _).mono ?_; rintro e w' ⟨rfl, rfl⟩))
    go_ret
    exact ⟨ret_bool (by simp [isItem, lotRule, h1, h2, h3, h4, h5, h6]), by go_grown⟩
  cases h7 : lotRule rule size
  · go_enter Try.func63, Try.ntmps63
    go_wp2_with (first | (go_at_call 36; refine (impl_in _ _ _ _).mono ?_; rintro e w' ⟨rfl, rfl⟩) | (go_at_call 82; refine (implIsCode _ _ (by assumption)).mono ?_; rintro e w' ⟨rfl, rfl⟩) | (go_at_call 83; refine (implLot _ _ _).mono ?_; rintro e w' ⟨rfl, rfl⟩))
    go_ret
    exact ⟨ret_bool (by simp [isItem, h1, h2, h3, h4, h5, h6, h7]), by go_grown⟩
  cases h8 : kind != 2
  rotate_left
  · go_enter Try.func63, Try.ntmps63
    go_wp2_with (first | (go_at_call 36; refine (impl_in _ _ _ _).mono ?_; rintro e w' ⟨rfl, rfl⟩) | (go_at_call 82; refine (implIsCode _ _ (by assumption)).mono ?_; rintro e w' ⟨rfl, rfl⟩) | (go_at_call 83; refine (implLot _ _ _).mono ?_; rintro e w' ⟨rfl, rfl⟩))
    go_ret
    exact ⟨ret_bool (by simp [isItem, h1, h2, h3, h4, h5, h6, h7, h8]), by go_grown⟩
  cases h9 : lead == 0
  · go_enter Try.func63, Try.ntmps63
    go_wp2_with (first | (go_at_call 36; refine (impl_in _ _ _ _).mono ?_; rintro e w' ⟨rfl, rfl⟩) | (go_at_call 82; refine (implIsCode _ _ (by assumption)).mono ?_; rintro e w' ⟨rfl, rfl⟩) | (go_at_call 83; refine (implLot _ _ _).mono ?_; rintro e w' ⟨rfl, rfl⟩))
    go_ret
    exact ⟨ret_bool (by simp [isItem, h1, h2, h3, h4, h5, h6, h7, h8, h9]), by go_grown⟩
  cases h10 : rule == 0
  · go_enter Try.func63, Try.ntmps63
    go_wp2_with (first | (go_at_call 36; refine (impl_in _ _ _ _).mono ?_; rintro e w' ⟨rfl, rfl⟩) | (go_at_call 82; refine (implIsCode _ _ (by assumption)).mono ?_; rintro e w' ⟨rfl, rfl⟩) | (go_at_call 83; refine (implLot _ _ _).mono ?_; rintro e w' ⟨rfl, rfl⟩))
    go_ret
    exact ⟨ret_bool (by simp [isItem, h1, h2, h3, h4, h5, h6, h7, h8, h9, h10]), by go_grown⟩
  cases h11 : safety == 0
  · go_enter Try.func63, Try.ntmps63
    go_wp2_with (first | (go_at_call 36; refine (impl_in _ _ _ _).mono ?_; rintro e w' ⟨rfl, rfl⟩) | (go_at_call 82; refine (implIsCode _ _ (by assumption)).mono ?_; rintro e w' ⟨rfl, rfl⟩) | (go_at_call 83; refine (implLot _ _ _).mono ?_; rintro e w' ⟨rfl, rfl⟩))
    go_ret
    exact ⟨ret_bool (by simp [isItem, h1, h2, h3, h4, h5, h6, h7, h8, h9, h10, h11]), by go_grown⟩
  cases h12 : scrap == 0
  · go_enter Try.func63, Try.ntmps63
    go_wp2_with (first | (go_at_call 36; refine (impl_in _ _ _ _).mono ?_; rintro e w' ⟨rfl, rfl⟩) | (go_at_call 82; refine (implIsCode _ _ (by assumption)).mono ?_; rintro e w' ⟨rfl, rfl⟩) | (go_at_call 83; refine (implLot _ _ _).mono ?_; rintro e w' ⟨rfl, rfl⟩))
    go_ret
    exact ⟨ret_bool (by simp [isItem, h1, h2, h3, h4, h5, h6, h7, h8, h9, h10, h11, h12]), by go_grown⟩
  · go_enter Try.func63, Try.ntmps63
    go_wp2_with (first | (go_at_call 36; refine (impl_in _ _ _ _).mono ?_; rintro e w' ⟨rfl, rfl⟩) | (go_at_call 82; refine (implIsCode _ _ (by assumption)).mono ?_; rintro e w' ⟨rfl, rfl⟩) | (go_at_call 83; refine (implLot _ _ _).mono ?_; rintro e w' ⟨rfl, rfl⟩))
    go_ret
    exact ⟨ret_bool (by simp [isItem, h1, h2, h3, h4, h5, h6, h7, h8, h9, h10, h11, h12]), by go_grown⟩
set_option maxRecDepth 100000 in
set_option maxHeartbeats 8000000 in
theorem specIsItem (x : It) (w : World) (hs : x.code.size ≤ 9223372036854775807) (hu : x.unit.size ≤ 9223372036854775807) : Calls Try.prog 62 #[itAgg x] w fun e' w' => e' = .returned (.bool (isItem x)) ∧ Below w.heap.size w w' := by
  obtain ⟨code, unit, kind, lead, rule, size, safety, scrap⟩ := x
  simp only at hs hu ⊢
  cases h1 : isCode code
  · go_enter Try.func62, Try.ntmps62
    go_wp2_with (first | (go_at_call 30; refine (spec_in _ _ _ _).mono ?_; rintro e w' ⟨rfl, rfl⟩) | (go_at_call 81; refine (specIsCode _ _ (by assumption)).mono ?_; rintro e w' ⟨rfl, rfl⟩))
    go_ret
    exact ⟨ret_bool (by simp [isItem, lotRule, h1]), by go_grown⟩
  cases h2 : isCode unit
  · go_enter Try.func62, Try.ntmps62
    go_wp2_with (first | (go_at_call 30; refine (spec_in _ _ _ _).mono ?_; rintro e w' ⟨rfl, rfl⟩) | (go_at_call 81; refine (specIsCode _ _ (by assumption)).mono ?_; rintro e w' ⟨rfl, rfl⟩))
    go_ret
    exact ⟨ret_bool (by simp [isItem, lotRule, h1, h2]), by go_grown⟩
  cases h3 : inB kind 0 2
  · go_enter Try.func62, Try.ntmps62
    go_wp2_with (first | (go_at_call 30; refine (spec_in _ _ _ _).mono ?_; rintro e w' ⟨rfl, rfl⟩) | (go_at_call 81; refine (specIsCode _ _ (by assumption)).mono ?_; rintro e w' ⟨rfl, rfl⟩))
    go_ret
    exact ⟨ret_bool (by simp [isItem, lotRule, h1, h2, h3]), by go_grown⟩
  cases h4 : inB lead 0 30
  · go_enter Try.func62, Try.ntmps62
    go_wp2_with (first | (go_at_call 30; refine (spec_in _ _ _ _).mono ?_; rintro e w' ⟨rfl, rfl⟩) | (go_at_call 81; refine (specIsCode _ _ (by assumption)).mono ?_; rintro e w' ⟨rfl, rfl⟩))
    go_ret
    exact ⟨ret_bool (by simp [isItem, lotRule, h1, h2, h3, h4]), by go_grown⟩
  cases h5 : inB rule 0 2
  · have r0 : (rule == 0) = false := by simp [inB] at h5 ⊢; omega
    have r1 : (rule == 1) = false := by simp [inB] at h5 ⊢; omega
    have r2 : (rule == 2) = false := by simp [inB] at h5 ⊢; omega
    go_enter Try.func62, Try.ntmps62
    go_wp2_with (first | (go_at_call 30; refine (spec_in _ _ _ _).mono ?_; rintro e w' ⟨rfl, rfl⟩) | (go_at_call 81; refine (specIsCode _ _ (by assumption)).mono ?_; rintro e w' ⟨rfl, rfl⟩))
    go_ret
    exact ⟨ret_bool (by simp [isItem, lotRule, h1, h2, h3, h4, r0, r1, r2]), by go_grown⟩
  have rr : (rule == 0) = true ∨ ((rule == 0) = false ∧ (rule == 1 || rule == 2) = true) := by simp [inB] at h5 ⊢; omega
  cases h6 : inB safety 0 100000
  · go_enter Try.func62, Try.ntmps62
    go_wp2_with (first | (go_at_call 30; refine (spec_in _ _ _ _).mono ?_; rintro e w' ⟨rfl, rfl⟩) | (go_at_call 81; refine (specIsCode _ _ (by assumption)).mono ?_; rintro e w' ⟨rfl, rfl⟩))
    go_ret
    exact ⟨ret_bool (by simp [isItem, lotRule, h1, h2, h3, h4, h6]), by go_grown⟩
  cases h7 : inB scrap 0 50
  · go_enter Try.func62, Try.ntmps62
    go_wp2_with (first | (go_at_call 30; refine (spec_in _ _ _ _).mono ?_; rintro e w' ⟨rfl, rfl⟩) | (go_at_call 81; refine (specIsCode _ _ (by assumption)).mono ?_; rintro e w' ⟨rfl, rfl⟩))
    go_ret
    exact ⟨ret_bool (by simp [isItem, lotRule, h1, h2, h3, h4, h6, h7]), by go_grown⟩
  have RR := Lib.hid rr; clear rr
  cases h8 : kind == 2
  · have k2 : (kind != 2) = true := by simpa using h8
    have K2 := Lib.hid k2; clear k2
    rcases RR.out with r0 | ⟨r0, r1⟩
    · have z : (rule != 0) = false := by simpa using r0
      cases h9 : size == 0
      all_goals
        go_enter Try.func62, Try.ntmps62
        go_wp2_with (first | (go_at_call 30; refine (spec_in _ _ _ _).mono ?_; rintro e w' ⟨rfl, rfl⟩) | (go_at_call 81; refine (specIsCode _ _ (by assumption)).mono ?_; rintro e w' ⟨rfl, rfl⟩))
        go_ret
        exact ⟨ret_bool (by have e0 : rule = 0 := (by simpa using r0); subst e0; simp [isItem, lotRule, h1, h2, h3, h4, h6, h7, K2.out, h9]), by go_grown⟩
    · have z : (rule != 0) = true := by simpa using r0
      have R1 := Lib.hid r1; clear r1
      cases h9 : inB size 1 1000
      all_goals
        go_enter Try.func62, Try.ntmps62
        go_wp2_with (first | (go_at_call 30; refine (spec_in _ _ _ _).mono ?_; rintro e w' ⟨rfl, rfl⟩) | (go_at_call 81; refine (specIsCode _ _ (by assumption)).mono ?_; rintro e w' ⟨rfl, rfl⟩))
        go_ret
        exact ⟨ret_bool (by simp [isItem, lotRule, h1, h2, h3, h4, h6, h7, K2.out, r0, R1.out, h9]), by go_grown⟩
  have k2 : (kind != 2) = false := by simpa using h8
  have K2 := Lib.hid k2; clear k2
  cases h10 : lead != 0
  rotate_left
  · have l0 : (lead == 0) = false := by simpa using h10
    have L0 := Lib.hid l0; clear l0
    go_enter Try.func62, Try.ntmps62
    go_wp2_with (first | (go_at_call 30; refine (spec_in _ _ _ _).mono ?_; rintro e w' ⟨rfl, rfl⟩) | (go_at_call 81; refine (specIsCode _ _ (by assumption)).mono ?_; rintro e w' ⟨rfl, rfl⟩))
    go_ret
    exact ⟨ret_bool (by simp [isItem, lotRule, h1, h2, h3, h4, h6, h7, K2.out, L0.out]), by go_grown⟩
  have l0 : (lead == 0) = true := by simpa using h10
  have L0 := Lib.hid l0; clear l0
  cases h11 : rule != 0
  rotate_left
  · have q0 : (rule == 0) = false := by simpa using h11
    have Q0 := Lib.hid q0; clear q0
    go_enter Try.func62, Try.ntmps62
    go_wp2_with (first | (go_at_call 30; refine (spec_in _ _ _ _).mono ?_; rintro e w' ⟨rfl, rfl⟩) | (go_at_call 81; refine (specIsCode _ _ (by assumption)).mono ?_; rintro e w' ⟨rfl, rfl⟩))
    go_ret
    exact ⟨ret_bool (by simp [isItem, lotRule, h1, h2, h3, h4, h6, h7, K2.out, L0.out, Q0.out]), by go_grown⟩
  have q0 : (rule == 0) = true := by simpa using h11
  cases h12 : safety != 0
  rotate_left
  · have s0 : (safety == 0) = false := by simpa using h12
    have S0 := Lib.hid s0; clear s0
    go_enter Try.func62, Try.ntmps62
    go_wp2_with (first | (go_at_call 30; refine (spec_in _ _ _ _).mono ?_; rintro e w' ⟨rfl, rfl⟩) | (go_at_call 81; refine (specIsCode _ _ (by assumption)).mono ?_; rintro e w' ⟨rfl, rfl⟩))
    go_ret
    exact ⟨ret_bool (by simp [isItem, lotRule, h1, h2, h3, h4, h6, h7, K2.out, L0.out, q0, S0.out]), by go_grown⟩
  have s0 : (safety == 0) = true := by simpa using h12
  have S0 := Lib.hid s0; clear s0
  cases h13 : scrap != 0
  rotate_left
  · have c0 : (scrap == 0) = false := by simpa using h13
    have C0 := Lib.hid c0; clear c0
    go_enter Try.func62, Try.ntmps62
    go_wp2_with (first | (go_at_call 30; refine (spec_in _ _ _ _).mono ?_; rintro e w' ⟨rfl, rfl⟩) | (go_at_call 81; refine (specIsCode _ _ (by assumption)).mono ?_; rintro e w' ⟨rfl, rfl⟩))
    go_ret
    exact ⟨ret_bool (by simp [isItem, lotRule, h1, h2, h3, h4, h6, h7, K2.out, L0.out, q0, S0.out, C0.out]), by go_grown⟩
  have c0 : (scrap == 0) = true := by simpa using h13
  have C0 := Lib.hid c0; clear c0
  cases h14 : size == 0
  · go_enter Try.func62, Try.ntmps62
    go_wp2_with (first | (go_at_call 30; refine (spec_in _ _ _ _).mono ?_; rintro e w' ⟨rfl, rfl⟩) | (go_at_call 81; refine (specIsCode _ _ (by assumption)).mono ?_; rintro e w' ⟨rfl, rfl⟩))
    go_ret
    exact ⟨ret_bool (by have e0 : rule = 0 := (by simpa using q0); subst e0; simp [isItem, lotRule, h1, h2, h3, h4, h6, h7, K2.out, L0.out, S0.out, C0.out, h14]), by go_grown⟩
  · go_enter Try.func62, Try.ntmps62
    go_wp2_with (first | (go_at_call 30; refine (spec_in _ _ _ _).mono ?_; rintro e w' ⟨rfl, rfl⟩) | (go_at_call 81; refine (specIsCode _ _ (by assumption)).mono ?_; rintro e w' ⟨rfl, rfl⟩))
    go_ret
    exact ⟨ret_bool (by have e0 : rule = 0 := (by simpa using q0); subst e0; simp [isItem, lotRule, h1, h2, h3, h4, h6, h7, K2.out, L0.out, S0.out, C0.out, h14]), by go_grown⟩
end Go.Proofs.Ytnhkpdaogclfjaa
