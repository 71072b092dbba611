/- FnExactAddToPool returns true for all arguments. No condition. -/
import Derived.Test.YtcbmephbeckkiaaPoolB
namespace Go.Proofs.Ytcbmephbeckkiaa.fnExactAddToPool
open Go.ChangeShapes Go.WideShapes Go.ChangeAt Go.RowKit

set_option maxHeartbeats 1000000 in
theorem walk (w : World) (q v : Int) (_hq : i64 q) (_hv : i64 v) (n : Int) (_hn : i64 n) (m : Int) (_hm : i64 m) :
    Calls Try.prog 8 #[.agg #[.int .i64 q, .int .i64 v], .int .i64 n, .int .i64 m] w fun e w' => e = .returned (.bool true) ∧ Below w.heap.size w w' := by
  obtain ⟨a, b, ok, hform⟩ := addRes_form q v n m
  have F := Lib.hid hform; clear hform
  go_enter Try.func8, Try.ntmps8
  go_wp2_with fail
  refine (toPool_any _ _ _).mono ?_; rintro e w1 ⟨rfl, hb1⟩
  go_wp2_with fail
  refine (specAddToPool _ _ _ _ _).mono ?_; rw [F.out]; rintro e w2 ⟨rfl, hb2⟩
  have b2 := below_then hb1 hb2
  have X2 := Lib.hid (blk_keep b2 (blk_new1 _ _))
  have x0 := cell_alloc (blk_at X2.out (j := 0) rfl); have x1 := cell_alloc (blk_at X2.out (j := 1) rfl)
  have c2 := below_then (below_box w _) b2
  clear hb1 hb2 b2
  go_wp2_with fail
  refine (toPool_any _ _ _).mono ?_; rintro e w3 ⟨rfl, hb3⟩
  go_wp2_with fail
  refine (implAddToPool _ _ _ _ _).mono ?_; rw [F.out]; rintro e w4 ⟨rfl, hb4⟩
  have b4 := below_then hb3 hb4
  have O4 := Lib.hid (blk_keep b4 (blk_new1 _ _))
  have o0 := cell_alloc (blk_at O4.out (j := 0) rfl); have o1 := cell_alloc (blk_at O4.out (j := 1) rfl)
  have c4 := below_then (below_then c2 (below_box w2 _)) b4
  clear hb3 hb4 b4 x0 x1
  go_wp2_with fail
  refine (eqPool_any _ _ _ _ _).mono ?_; rintro e w5 ⟨rfl, hb5⟩
  go_wp2_with fail
  go_ret
  exact ⟨rfl, below_then (below_then c4 (below_box w4 _)) hb5⟩

set_option maxRecDepth 100000 in
theorem lifted (os : Os) (started : os.Started) (H : Type) (enc : TypeId × Value → H) :
    ReturnsInHanded {} Try.checked os 8 .any (Rows.fnExactAddToPoolSpec.pre6 enc Try.prog Try.f8 Rows.fnExactAddToPoolRow.domain false) (Rows.fnExactAddToPoolSpec.post enc Try.prog Try.f8 false true false false) := by
  refine returnsInHanded_of_change (C := Try.checked) Try.own started (by kernel_rfl) Try.func8
    (ChangeSpec.witness6 (enc := enc) (C := Try.checked) false ⟨#[], #[.agg #[.int .i64 0, .int .i64 0], .int .i64 0, .int .i64 0], []⟩ 8 (by kernel_rfl) (by kernel_rfl) (by kernel_rfl) (by kernel_rfl)) ?_
  intro W base args ds gs before hval0 hW hcnd _
  have hval : ∀ (j : Nat) t v, Try.f8.params[j]? = some t → args[j]? = some v → Value.okWide Try.prog W .any base t v := hval0
  have hW' := hW
  obtain ⟨p, q, hA0, hV, rfl, hfz, hnd⟩ := hW
  have hA : DataW.TrodAll enc Try.prog W 0 (fun _ => true) true Try.f8.params.toList args.toList ds p := hA0
  rw [Try.params8] at hA hval
  obtain ⟨v0, vs0, d0, ds0, p0, q0, hargs, rfl, rfl, h0, r0⟩ := trodAll_cons hA
  obtain ⟨v1, vs1, d1, ds1, p1, q1, rfl, rfl, rfl, h1, r1⟩ := trodAll_cons r0
  obtain ⟨v2, vs2, d2, ds2, p2, q2, rfl, rfl, rfl, h2, r2⟩ := trodAll_cons r1
  obtain ⟨rfl, rfl, rfl⟩ := trodAll_nil r2
  obtain rfl : args = #[v0, v1, v2] := by cases args; simp_all
  obtain ⟨rfl, rfl⟩ := trodVars_none hV
  obtain ⟨xq, xv, rfl, hxq, hxv⟩ := open_pool (hval 0 24 v0 rfl rfl) h0
  obtain ⟨n, rfl, rfl, rfl, wn⟩ := open_int Try.underlying3 (hval 1 3 v1 rfl rfl) h1
  obtain ⟨m, rfl, rfl, rfl, wm⟩ := open_int Try.underlying3 (hval 2 3 v2 rfl rfl) h2
  refine (walk W xq xv hxq hxv n (i64_of wn) m (i64_of wm)).mono fun e W' ⟨he, hb⟩ => ?_
  subst he
  exact ⟨_, rfl, law_post Try.laidOut (by kernel_rfl) (by kernel_rfl) Try.underlying4 hW' rfl ⟨rfl, rfl, rfl⟩ hb⟩

theorem proved : Rows.FnExactAddToPoolSaid :=
  OpenClaim.holds_of_wide 8 Try.f8 rfl rfl rfl rfl rfl rfl rfl ⟨rfl, rfl, rfl, rfl, rfl⟩ rfl rfl rfl rfl rfl (by kernel_rfl) Try.func8 (by kernel_rfl)
    (of_decide_eq_true (by kernel_rfl)) (by unfold Func.isWrapper; first | (rw [if_pos (by decide +kernel)]; kernel_rfl) | (rw [if_neg (by decide +kernel)]; exact ⟨rfl, rfl⟩))
    (fun os started H enc _ => lifted os started H enc)
#print axioms proved
end Go.Proofs.Ytcbmephbeckkiaa.fnExactAddToPool
