/- FnExactTakeFromPool returns true for all arguments. No condition. -/
import Derived.Test.YtcbmephbeckkiaaPoolB
namespace Go.Proofs.Ytcbmephbeckkiaa.fnExactTakeFromPool
open Go.ChangeShapes Go.WideShapes Go.ChangeAt Go.RowKit

set_option maxHeartbeats 1000000 in
theorem walk (w : World) (q v : Int) (_hq : i64 q) (_hv : i64 v) (n : Int) (_hn : i64 n) :
    Calls Try.prog 7 #[.agg #[.int .i64 q, .int .i64 v], .int .i64 n] w fun e w' => e = .returned (.bool true) ∧ Below w.heap.size w w' := by
  obtain ⟨a, b, cc, ok, hform⟩ := takeRes_form q v n
  have F := Lib.hid hform; clear hform
  go_enter Try.func7, Try.ntmps7
  go_wp2_with fail
  refine (toPool_any _ _ _).mono ?_; rintro e w1 ⟨rfl, hb1⟩
  go_wp2_with fail
  refine (specTakeFromPool _ _ _ _).mono ?_; rw [F.out]; rintro e w2 ⟨rfl, hb2⟩
  have b2 := below_then hb1 hb2
  have X2 := Lib.hid (blk_keep b2 (blk_new1 _ _))
  have x0 := cell_alloc (blk_at X2.out (j := 0) rfl); have x1 := cell_alloc (blk_at X2.out (j := 1) rfl)
  have c2 := below_then (below_box w _) b2
  clear hb1 hb2 b2
  go_wp2_with fail
  refine (toPool_any _ _ _).mono ?_; rintro e w3 ⟨rfl, hb3⟩
  go_wp2_with fail
  refine (implTakeFromPool _ _ _ _).mono ?_; rw [F.out]; rintro e w4 ⟨rfl, hb4⟩
  have b4 := below_then hb3 hb4
  have O4 := Lib.hid (blk_keep b4 (blk_new1 _ _))
  have o0 := cell_alloc (blk_at O4.out (j := 0) rfl); have o1 := cell_alloc (blk_at O4.out (j := 1) rfl)
  have c4 := below_then (below_then c2 (below_box w2 _)) b4
  clear hb3 hb4 b4 x0 x1
  go_wp2_with fail
  refine (eqPool_any _ _ _ _ _).mono ?_; rintro e w5 ⟨rfl, hb5⟩
  go_wp2_with fail
  go_ret
  exact ⟨rfl, below_then (below_then c4 (below_box w4 _)) hb5⟩

set_option maxRecDepth 100000 in
theorem lifted (os : Os) (started : os.Started) (H : Type) (enc : TypeId × Value → H) :
    ReturnsInHanded {} Try.checked os 7 .any (Rows.fnExactTakeFromPoolSpec.pre6 enc Try.prog Try.f7 Rows.fnExactTakeFromPoolRow.domain false) (Rows.fnExactTakeFromPoolSpec.post enc Try.prog Try.f7 false true false false) := by
  refine returnsInHanded_of_change (C := Try.checked) Try.own started (by kernel_rfl) Try.func7
    (ChangeSpec.witness6 (enc := enc) (C := Try.checked) false ⟨#[], #[.agg #[.int .i64 0, .int .i64 0], .int .i64 0], []⟩ 8 (by kernel_rfl) (by kernel_rfl) (by kernel_rfl) (by kernel_rfl)) ?_
  intro W base args ds gs before hval0 hW hcnd _
  have hval : ∀ (j : Nat) t v, Try.f7.params[j]? = some t → args[j]? = some v → Value.okWide Try.prog W .any base t v := hval0
  have hW' := hW
  obtain ⟨p, q, hA0, hV, rfl, hfz, hnd⟩ := hW
  have hA : DataW.TrodAll enc Try.prog W 0 (fun _ => true) true Try.f7.params.toList args.toList ds p := hA0
  rw [Try.params7] at hA hval
  obtain ⟨v0, vs0, d0, ds0, p0, q0, hargs, rfl, rfl, h0, r0⟩ := trodAll_cons hA
  obtain ⟨v1, vs1, d1, ds1, p1, q1, rfl, rfl, rfl, h1, r1⟩ := trodAll_cons r0
  obtain ⟨rfl, rfl, rfl⟩ := trodAll_nil r1
  obtain rfl : args = #[v0, v1] := by cases args; simp_all
  obtain ⟨rfl, rfl⟩ := trodVars_none hV
  obtain ⟨xq, xv, rfl, hxq, hxv⟩ := open_pool (hval 0 24 v0 rfl rfl) h0
  obtain ⟨n, rfl, rfl, rfl, wn⟩ := open_int Try.underlying3 (hval 1 3 v1 rfl rfl) h1
  refine (walk W xq xv hxq hxv n (i64_of wn)).mono fun e W' ⟨he, hb⟩ => ?_
  subst he
  exact ⟨_, rfl, law_post Try.laidOut (by kernel_rfl) (by kernel_rfl) Try.underlying4 hW' rfl ⟨rfl, rfl, rfl⟩ hb⟩

theorem proved : Rows.FnExactTakeFromPoolSaid :=
  OpenClaim.holds_of_wide 7 Try.f7 rfl rfl rfl rfl rfl rfl rfl ⟨rfl, rfl, rfl, rfl, rfl⟩ rfl rfl rfl rfl rfl (by kernel_rfl) Try.func7 (by kernel_rfl)
    (of_decide_eq_true (by kernel_rfl)) (by unfold Func.isWrapper; first | (rw [if_pos (by decide +kernel)]; kernel_rfl) | (rw [if_neg (by decide +kernel)]; exact ⟨rfl, rfl⟩))
    (fun os started H enc _ => lifted os started H enc)
#print axioms proved
end Go.Proofs.Ytcbmephbeckkiaa.fnExactTakeFromPool
