/- Events: the plain words, and the walks on one event. -/
import Derived.Test.YtlgodbjbllpipaaText
import Derived.Test.YtlgodbjbllpipaaOpen
import Derived.Lib.SmallJoins
namespace Go.Proofs.Ytlgodbjbllpipaa
open Go.ChangeShapes Go.WideShapes Go.ChangeAt Go.RowKit Go.Joins Go.Deep

structure Ev where
  id : Int
  day : Int
  kind : Int
  item : ByteArray
  q : Int
  a : Int
  r : Int
def evCell (e : Ev) : List Value := [.int .i64 e.id, .int .i64 e.day, .int .i64 e.kind, .string e.item, .int .i64 e.q, .int .i64 e.a, .int .i64 e.r]
abbrev evAgg (e : Ev) : Value := .agg #[.int .i64 e.id, .int .i64 e.day, .int .i64 e.kind, .string e.item, .int .i64 e.q, .int .i64 e.a, .int .i64 e.r]
def evOk (e : Ev) : Prop := i64 e.id ∧ i64 e.day ∧ i64 e.kind ∧ e.item.size ≤ 9223372036854775807 ∧ i64 e.q ∧ i64 e.a ∧ i64 e.r
def isEvent (e : Ev) : Bool :=
  inB e.id 1 9999 && (inB e.day 0 999 && (isCode e.item &&
    (if e.kind = 1 ∨ e.kind = 3 ∨ e.kind = 4 then inB e.q 1 100000 && (inB e.a 1 100000 && e.r == 0)
     else if e.kind = 2 then inB e.q 1 100000 && (e.a == 0 && e.r == 0)
     else if e.kind = 5 then e.q == 0 && (inB e.a (-100000) 100000 && (e.a != 0 && inB e.r 1 9999))
     else false)))

theorem szEvent_any (e : Ev) (left : Int) (w : World) (h0 : 0 ≤ left) (h1 : left ≤ 1048576) (hs : e.item.size ≤ 9223372036854775807) :
    Calls Try.prog 23 #[evAgg e, .int .i64 left] w fun e' w' => e' = .returned (.int .i64 (if left - e.item.size < 0 then -1 else left - e.item.size)) ∧ Below w.heap.size w w' := by
  obtain ⟨id, day, kind, item, q, a, r⟩ := e
  simp only at hs
  by_cases h : left - item.size < 0
  · simp only [if_pos h]
    go_enter Try.func23, Try.ntmps23
    go_wp2
    go_ret
    exact ⟨rfl, by go_grown⟩
  · simp only [if_neg h]
    go_enter Try.func23, Try.ntmps23
    go_wp2
    go_ret
    exact ⟨rfl, by go_grown⟩
theorem toEvent_any (e : Ev) (w : World) : Calls Try.prog 25 #[evAgg e] w fun e' w' => e' = .returned (evAgg e) ∧ Below w.heap.size w w' := by
  obtain ⟨id, day, kind, item, q, a, r⟩ := e
  go_enter Try.func25, Try.ntmps25
  go_wp2
  go_returns
  exact ⟨rfl, by go_grown⟩
set_option maxHeartbeats 4000000 in
theorem implIsEvent (e : Ev) (w : World) (hs : e.item.size ≤ 9223372036854775807) : Calls Try.prog 59 #[evAgg e] w fun e' w' => e' = .returned (.bool (isEvent e)) ∧ Below w.heap.size w w' := by
  obtain ⟨id, day, kind, item, q, a, r⟩ := e
  simp only at hs ⊢
  cases h1 : inB id 1 9999
  · go_enter Try.func59, Try.ntmps59
    go_wp2_with (first | (go_at_call 47; refine (impl_in _ _ _ _).mono ?_; rintro e w' ⟨rfl, rfl⟩) | (go_at_call 45; refine (implIsCode _ _ hs).mono ?_; rintro e w' ⟨rfl, rfl⟩))
    go_ret
    exact ⟨ret_bool (by simp [isEvent, h1]), by go_grown⟩
  cases h2 : inB day 0 999
  · go_enter Try.func59, Try.ntmps59
    go_wp2_with (first | (go_at_call 47; refine (impl_in _ _ _ _).mono ?_; rintro e w' ⟨rfl, rfl⟩) | (go_at_call 45; refine (implIsCode _ _ hs).mono ?_; rintro e w' ⟨rfl, rfl⟩))
    go_ret
    exact ⟨ret_bool (by simp [isEvent, h2]), by go_grown⟩
  cases h3 : isCode item
  · go_enter Try.func59, Try.ntmps59
    go_wp2_with (first | (go_at_call 47; refine (impl_in _ _ _ _).mono ?_; rintro e w' ⟨rfl, rfl⟩) | (go_at_call 45; refine (implIsCode _ _ hs).mono ?_; rintro e w' ⟨rfl, rfl⟩))
    go_ret
    exact ⟨ret_bool (by simp [isEvent, h3]), by go_grown⟩
  by_cases k1 : kind = 1 ∨ kind = 3 ∨ kind = 4
  · rcases k1 with rfl | rfl | rfl <;> cases h4 : inB q 1 100000 <;> cases h5 : inB a 1 100000
    all_goals
      go_enter Try.func59, Try.ntmps59
      go_wp2_with (first | (go_at_call 47; refine (impl_in _ _ _ _).mono ?_; rintro e w' ⟨rfl, rfl⟩) | (go_at_call 45; refine (implIsCode _ _ hs).mono ?_; rintro e w' ⟨rfl, rfl⟩))
      go_ret
      exact ⟨ret_bool (by simp [isEvent, h1, h2, h3, h4, h5]), by go_grown⟩
  · have n1 : (kind == 1) = false := by simp; omega
    have n3 : (kind == 3) = false := by simp; omega
    have n4 : (kind == 4) = false := by simp; omega
    by_cases k2 : kind = 2
    · subst k2
      clear k1
      cases h4 : inB q 1 100000 <;> cases h5 : a == 0
      all_goals
        go_enter Try.func59, Try.ntmps59
        go_wp2_with (first | (go_at_call 47; refine (impl_in _ _ _ _).mono ?_; rintro e w' ⟨rfl, rfl⟩) | (go_at_call 45; refine (implIsCode _ _ hs).mono ?_; rintro e w' ⟨rfl, rfl⟩))
        go_ret
        exact ⟨ret_bool (by simp [isEvent, h1, h2, h3, h4, h5]), by go_grown⟩
    · have n2 : (kind == 2) = false := by simpa using k2
      by_cases k5 : kind = 5
      · subst k5
        clear k1 k2
        cases h4 : q == 0 <;> cases h5 : inB a (-100000) 100000 <;> cases h6 : a != 0
        all_goals
          go_enter Try.func59, Try.ntmps59
          go_wp2_with (first | (go_at_call 47; refine (impl_in _ _ _ _).mono ?_; rintro e w' ⟨rfl, rfl⟩) | (go_at_call 45; refine (implIsCode _ _ hs).mono ?_; rintro e w' ⟨rfl, rfl⟩))
          go_ret
          exact ⟨ret_bool (by simp [isEvent, h1, h2, h3, h4, h5, h6]), by go_grown⟩
      · have n5 : (kind == 5) = false := by simpa using k5
        have K1 := Lib.hid k1; have K2 := Lib.hid k2; have K5 := Lib.hid k5
        clear k1 k2 k5
        go_enter Try.func59, Try.ntmps59
        go_wp2_with (first | (go_at_call 47; refine (impl_in _ _ _ _).mono ?_; rintro e w' ⟨rfl, rfl⟩) | (go_at_call 45; refine (implIsCode _ _ hs).mono ?_; rintro e w' ⟨rfl, rfl⟩))
        go_ret
        exact ⟨ret_bool (by simp [isEvent, h1, h2, h3, K1.out, K2.out, K5.out]), by go_grown⟩
set_option maxHeartbeats 4000000 in
theorem specIsEvent (e : Ev) (w : World) (hs : e.item.size ≤ 9223372036854775807) : Calls Try.prog 31 #[evAgg e] w fun e' w' => e' = .returned (.bool (isEvent e)) ∧ Below w.heap.size w w' := by
  obtain ⟨id, day, kind, item, q, a, r⟩ := e
  simp only at hs ⊢
  cases h1 : inB id 1 9999
  · go_enter Try.func31, Try.ntmps31
    go_wp2_with (first | (go_at_call 43; refine (spec_in _ _ _ _).mono ?_; rintro e w' ⟨rfl, rfl⟩) | (go_at_call 41; refine (specIsCode _ _ hs).mono ?_; rintro e w' ⟨rfl, rfl⟩))
    go_ret
    exact ⟨ret_bool (by simp [isEvent, h1]), by go_grown⟩
  cases h2 : inB day 0 999
  · go_enter Try.func31, Try.ntmps31
    go_wp2_with (first | (go_at_call 43; refine (spec_in _ _ _ _).mono ?_; rintro e w' ⟨rfl, rfl⟩) | (go_at_call 41; refine (specIsCode _ _ hs).mono ?_; rintro e w' ⟨rfl, rfl⟩))
    go_ret
    exact ⟨ret_bool (by simp [isEvent, h2]), by go_grown⟩
  cases h3 : isCode item
  · go_enter Try.func31, Try.ntmps31
    go_wp2_with (first | (go_at_call 43; refine (spec_in _ _ _ _).mono ?_; rintro e w' ⟨rfl, rfl⟩) | (go_at_call 41; refine (specIsCode _ _ hs).mono ?_; rintro e w' ⟨rfl, rfl⟩))
    go_ret
    exact ⟨ret_bool (by simp [isEvent, h3]), by go_grown⟩
  by_cases k1 : kind = 1 ∨ kind = 3 ∨ kind = 4
  · rcases k1 with rfl | rfl | rfl <;> cases h4 : inB q 1 100000 <;> cases h5 : inB a 1 100000
    all_goals
      go_enter Try.func31, Try.ntmps31
      go_wp2_with (first | (go_at_call 43; refine (spec_in _ _ _ _).mono ?_; rintro e w' ⟨rfl, rfl⟩) | (go_at_call 41; refine (specIsCode _ _ hs).mono ?_; rintro e w' ⟨rfl, rfl⟩))
      go_ret
      exact ⟨ret_bool (by simp [isEvent, h1, h2, h3, h4, h5]), by go_grown⟩
  · have n1 : (kind == 1) = false := by simp; omega
    have n3 : (kind == 3) = false := by simp; omega
    have n4 : (kind == 4) = false := by simp; omega
    by_cases k2 : kind = 2
    · subst k2
      clear k1
      cases h4 : inB q 1 100000 <;> cases h5 : a == 0
      all_goals
        go_enter Try.func31, Try.ntmps31
        go_wp2_with (first | (go_at_call 43; refine (spec_in _ _ _ _).mono ?_; rintro e w' ⟨rfl, rfl⟩) | (go_at_call 41; refine (specIsCode _ _ hs).mono ?_; rintro e w' ⟨rfl, rfl⟩))
        go_ret
        exact ⟨ret_bool (by simp [isEvent, h1, h2, h3, h4, h5]), by go_grown⟩
    · have n2 : (kind == 2) = false := by simpa using k2
      by_cases k5 : kind = 5
      · subst k5
        clear k1 k2
        cases h4 : q == 0 <;> cases h5 : inB a (-100000) 100000 <;> cases h6 : a != 0
        all_goals
          go_enter Try.func31, Try.ntmps31
          go_wp2_with (first | (go_at_call 43; refine (spec_in _ _ _ _).mono ?_; rintro e w' ⟨rfl, rfl⟩) | (go_at_call 41; refine (specIsCode _ _ hs).mono ?_; rintro e w' ⟨rfl, rfl⟩))
          go_ret
          exact ⟨ret_bool (by simp [isEvent, h1, h2, h3, h4, h5, h6]), by go_grown⟩
      · have n5 : (kind == 5) = false := by simpa using k5
        have K1 := Lib.hid k1; have K2 := Lib.hid k2; have K5 := Lib.hid k5
        clear k1 k2 k5
        go_enter Try.func31, Try.ntmps31
        go_wp2_with (first | (go_at_call 43; refine (spec_in _ _ _ _).mono ?_; rintro e w' ⟨rfl, rfl⟩) | (go_at_call 41; refine (specIsCode _ _ hs).mono ?_; rintro e w' ⟨rfl, rfl⟩))
        go_ret
        exact ⟨ret_bool (by simp [isEvent, h1, h2, h3, K1.out, K2.out, K5.out]), by go_grown⟩

section
variable {H : Type} {enc : TypeId × Value → H} {P : Program} {w : World} {base : Nat} {spare : Nat → Bool} {held : Bool}
theorem open_agg7 {r : Reach} {b0 : Nat} {t : TypeId} {f0 f1 f2 f3 f4 f5 f6 : Field} {v : Value} {d : DataW H} {p : List MemPlace} (hs : P.underlying t = some (.struct #[f0, f1, f2, f3, f4, f5, f6])) (hone : oneCellFields P #[f0, f1, f2, f3, f4, f5, f6] = true) (hC : P.cellsOf t = 7)
    (hv : Value.okWide P w r b0 t v) (h : DataW.Trod enc P w base spare held t v d p) :
    ∃ (v0 v1 v2 v3 v4 v5 v6 : Value) (y0 y1 y2 y3 y4 y5 y6 : DataW H × List MemPlace) (n : Nat), v = .agg #[v0, v1, v2, v3, v4, v5, v6] ∧
      DataW.trod enc P w base spare held n f0.type [v0] = some y0 ∧ DataW.trod enc P w base spare held n f1.type [v1] = some y1 ∧ DataW.trod enc P w base spare held n f2.type [v2] = some y2 ∧ DataW.trod enc P w base spare held n f3.type [v3] = some y3 ∧ DataW.trod enc P w base spare held n f4.type [v4] = some y4 ∧ DataW.trod enc P w base spare held n f5.type [v5] = some y5 ∧ DataW.trod enc P w base spare held n f6.type [v6] = some y6 := by
  obtain ⟨cs, rfl, hsz⟩ := okWide_struct hs hv
  obtain ⟨l⟩ := cs
  match l, hsz.trans hC with
  | [c0, c1, c2, c3, c4, c5, c6], _ =>
    obtain ⟨fuel, hf⟩ := h
    obtain ⟨xs, n, _, hx, _, hlen, hg⟩ := DataW.trod_struct hs hf
    obtain ⟨o0, k0⟩ := hone_of hone 0 f0 rfl
    obtain ⟨o1, k1⟩ := hone_of hone 1 f1 rfl
    obtain ⟨o2, k2⟩ := hone_of hone 2 f2 rfl
    obtain ⟨o3, k3⟩ := hone_of hone 3 f3 rfl
    obtain ⟨o4, k4⟩ := hone_of hone 4 f4 rfl
    obtain ⟨o5, k5⟩ := hone_of hone 5 f5 rfl
    obtain ⟨o6, k6⟩ := hone_of hone 6 f6 rfl
    match xs, hlen with
    | [y0, y1, y2, y3, y4, y5, y6], _ =>
      exact ⟨c0, c1, c2, c3, c4, c5, c6, y0, y1, y2, y3, y4, y5, y6, n, rfl, by simpa [Value.cells, o0, k0] using hg 0 f0 rfl, by simpa [Value.cells, o1, k1] using hg 1 f1 rfl, by simpa [Value.cells, o2, k2] using hg 2 f2 rfl, by simpa [Value.cells, o3, k3] using hg 3 f3 rfl, by simpa [Value.cells, o4, k4] using hg 4 f4 rfl, by simpa [Value.cells, o5, k5] using hg 5 f5 rfl, by simpa [Value.cells, o6, k6] using hg 6 f6 rfl⟩
end
set_option maxRecDepth 100000 in
theorem open_event {H : Type} {enc : TypeId × Value → H} {w : World} {base : Nat} {spare : Nat → Bool} {held : Bool} {r : Reach} {b0 : Nat} {v : Value} {d : DataW H} {p : List MemPlace}
    (hv : Value.okWide Try.prog w r b0 40 v) (h : DataW.Trod enc Try.prog w base spare held 40 v d p) :
    ∃ e : Ev, v = evAgg e ∧ evOk e := by
  obtain ⟨c0, c1, c2, c3, c4, c5, c6, y0, y1, y2, y3, y4, y5, y6, m, rfl, h0, h1, h2, h3, h4, h5, h6⟩ := open_agg7 Try.underlying40 (by kernel_rfl) (by kernel_rfl : Try.prog.cellsOf 40 = 7) hv h
  obtain ⟨a0, e0, _, w0⟩ := DataW.trod_int Try.underlying3 h0
  obtain ⟨a1, e1, _, w1⟩ := DataW.trod_int Try.underlying3 h1
  obtain ⟨a2, e2, _, w2⟩ := DataW.trod_int Try.underlying3 h2
  obtain ⟨a3, e3, _, w3⟩ := DataW.trod_string Try.underlying9 h3
  obtain ⟨a4, e4, _, w4⟩ := DataW.trod_int Try.underlying3 h4
  obtain ⟨a5, e5, _, w5⟩ := DataW.trod_int Try.underlying3 h5
  obtain ⟨a6, e6, _, w6⟩ := DataW.trod_int Try.underlying3 h6
  simp only [List.cons.injEq, and_true] at e0 e1 e2 e3 e4 e5 e6
  subst e0 e1 e2 e3 e4 e5 e6
  exact ⟨⟨a0, a1, a2, a3, a4, a5, a6⟩, rfl, i64_of w0, i64_of w1, i64_of w2, by unfold maxLen at w3; simp only; omega, i64_of w4, i64_of w5, i64_of w6⟩
end Go.Proofs.Ytlgodbjbllpipaa
