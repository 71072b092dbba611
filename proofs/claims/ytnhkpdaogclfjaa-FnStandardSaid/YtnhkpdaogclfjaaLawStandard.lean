/- FnStandard returns true for all arguments, and leaves them as they were. No condition. -/
import Derived.Test.YtnhkpdaogclfjaaDrawStd
import Derived.Test.YtnhkpdaogclfjaaDrawOpen
import Derived.Test.YtnhkpdaogclfjaaExplW
import Derived.Test.YtnhkpdaogclfjaaStdSW
namespace Go.Proofs.Ytnhkpdaogclfjaa.fnStandard
open Go.ChangeShapes Go.WideShapes Go.ChangeAt Go.RowKit

/-! ### the plain law -/
theorem price_bd (prices : List Nd) (s : ByteArray) : 0 ≤ priceIn prices s ∧ priceIn prices s ≤ 10000 := by
  refine ⟨price_pos prices s, ?_⟩
  unfold priceIn
  cases hf : prices.find? (priceHit s) with
  | none => simp
  | some x =>
    have := List.find?_some hf
    simp only [priceHit, Bool.and_eq_true, inB_true] at this
    simp only
    omega
/-- What is wanted after the first k needs. -/
def wantAt (pr ds : List Nd) (s : ByteArray) (k : Nat) : Int := priceIn pr s + nsum (priceIn pr) (ds.take k)
theorem want_zero (pr ds : List Nd) (s : ByteArray) : wantAt pr ds s 0 = priceIn pr s := by simp [wantAt, nsum]
theorem want_next {pr ds : List Nd} {s : ByteArray} {k : Nat} {x : Nd} (h : ds[k]? = some x) : wantAt pr ds s (k + 1) = wantAt pr ds s k + x.qty * priceIn pr x.code := by
  unfold wantAt
  rw [nsum_take h]; omega
theorem mul_bd {a b : Int} (h0 : 0 ≤ a) (h1 : a ≤ 1000000000) (h2 : 0 ≤ b) (h3 : b ≤ 10000) : 0 ≤ a * b ∧ a * b ≤ 10000000000000 := by
  refine ⟨Int.mul_nonneg h0 h2, ?_⟩
  have := Int.mul_le_mul h1 h3 h2 (by omega : (0 : Int) ≤ 1000000000)
  omega
theorem want_bd {pr ds : List Nd} {s : ByteArray} (hd : ∀ x ∈ ds, 0 ≤ x.qty ∧ x.qty ≤ 1000000000) : ∀ (k : Nat), k ≤ ds.length → 0 ≤ wantAt pr ds s k ∧ wantAt pr ds s k ≤ 10000 + k * 10000000000000
  | 0, _ => by rw [want_zero]; have := price_bd pr s; omega
  | k + 1, hk => by
    have ih := want_bd (pr := pr) (s := s) hd k (by omega)
    have hx : ds[k]? = some ds[k] := List.getElem?_eq_getElem (by omega)
    rw [want_next hx]
    have h1 := hd ds[k] (List.getElem_mem _)
    have h2 := price_bd pr ds[k].code
    have := mul_bd h1.1 h1.2 h2.1 h2.2
    omega
theorem want_all {pr ds : List Nd} {s : ByteArray} {n : Nat} (hn : ds.length = n) : wantAt pr ds s n = nsum (priceIn pr) ds + priceIn pr s := by
  unfold wantAt
  rw [List.take_of_length_le (by omega)]; omega
theorem std_T {cat : List It} {l : List Bl} {pr : List Nd} {s : ByteArray} {day : Int} {ch : List Pk} (h : stdB cat l pr s day ch = true) :
    stdN cat l pr s day ch = costT (force l day ch) (priceIn pr) cat.length s := by
  rw [std_yes h]
  simp only [stdB, Bool.and_eq_true, decide_eq_true_eq] at h
  exact costS_T _ _ _ _ h.2

set_option maxRecDepth 100000 in
set_option maxHeartbeats 4000000 in
theorem walk (W : World) (A : Option Addr) (n c : Nat) (bs : List Int) (hr : RS W 1 A n (byteCells bs)) (hn : n ≤ 9223372036854775807) (hbs : ∀ b ∈ bs, 0 ≤ b ∧ b < 256) :
    Calls Try.prog 5 #[.slice A n c] W fun e W' => e = .returned (.bool true) ∧ Below W.heap.size W W' := by
  by_cases hbig : 1048576 < n
  · go_enter Try.func5, Try.ntmps5
    go_wp2_with (go_at_call 22; refine (big_any _ _ _ _ hn).mono ?_; rw [decide_eq_true hbig]; rintro e w' ⟨rfl, rfl⟩)
    go_ret
    exact ⟨rfl, Below.refl _ _⟩
  · go_enter Try.func5, Try.ntmps5
    go_wp2_with fail
    refine (big_any _ _ _ _ hn).mono ?_; rw [decide_eq_false hbig]; rintro e w' ⟨rfl, rfl⟩
    go_wp2_with fail
    refine (DrawStd_any A n c bs _ hr hbs (by omega)).mono ?_; rintro e w1 ⟨Ac, nc, cc, cat, Al, nl, cl, l, P, np, cp, pr, s, day, B, m, d, ch, rfl, rc, rl, rp, rk, hnc, hnl, hnp, hm, okc, okl, b1⟩
    have OKC := Lib.hid okc; have OKL := Lib.hid okl
    clear okc okl
    go_wp2_with fail
    refine (implStd Ac nc cc cat Al nl cl l P np cp pr s day B m d ch _ rc (by omega) OKC.out rl (by omega) OKL.out rp (by omega) rk (by omega)).mono ?_; rintro e w2 ⟨rfl, hb2⟩
    have rc := rc.below hb2; have rl := rl.below hb2; have rp := rp.below hb2; have rk := rk.below hb2
    have b2 := below_then b1 hb2
    clear hb2 b1
    obtain ⟨v, hv⟩ : ∃ v, v = stdN cat l pr s day ch := ⟨_, rfl⟩
    obtain ⟨is, his⟩ : ∃ is, is = stdB cat l pr s day ch := ⟨_, rfl⟩
    rw [← hv, ← his]
    have HV := Lib.hid hv; have HIS := Lib.hid his
    clear hv his
    go_wp2_with fail
    refine (specStd Ac nc cc cat Al nl cl l P np cp pr s day B m d ch _ rc (by omega) OKC.out rl (by omega) OKL.out rp (by omega) rk (by omega)).mono ?_; rw [← HV.out, ← HIS.out]; rintro e w3 ⟨rfl, hb3⟩
    have rc := rc.below hb3; have rl := rl.below hb3; have rp := rp.below hb3; have rk := rk.below hb3
    have b3 := below_then b2 hb3
    clear hb3 b2
    go_wp2_with fail
    refine (implExplosion Ac nc cc cat Al nl cl l s day B m d ch (priceIn pr) _ rc (by omega) OKC.out rl (by omega) OKL.out rk (by omega)).mono ?_; rintro e w4 ⟨D, q, dc, b, ds, rfl, rd, hq, hds, hT, hb4⟩
    have rp := rp.below hb4
    have b4 := below_then b3 hb4
    have HT := Lib.hid hT; have HDS := Lib.hid hds
    have hld := Lib.hid (rd.flatLen ndCell_len (by omega))
    clear hb4 b3 rc rl rk hT hds
    cases is
    · have v0 : v = 0 := by rw [HV.out]; exact std_no HIS.out.symm
      subst v0
      go_wp2_with fail
      go_ret
      exact ⟨rfl, b4⟩
    go_wp2_with fail
    refine (implPriceIn P np cp pr s _ rp (by omega)).mono ?_; rw [← want_zero pr ds s]; rintro e w5 ⟨rfl, hb5⟩
    have rp := rp.below hb5; have rd := rd.below hb5
    have b5 := below_then b4 hb5
    have Z5 := b5.size
    clear hb5 b4
    go_wp2_with fail
    go_loopw [15, 16] (fun t i wr => ∃ k : Nat, k ≤ q ∧ i = .int .i64 k ∧ t = .int .i64 (wantAt pr ds s k) ∧ Below w5.heap.size w5 wr) (fun _ i _ => q - (intOf i).toNat)
    case atStart => exact ⟨0, Nat.zero_le _, rfl, rfl, Below.refl _ _⟩
    case round =>
      obtain ⟨k, hk, rfl, rfl, hb⟩ := hrel
      by_cases hlt : k < q
      · obtain ⟨g, off, rfl, x, hx, x0, x1⟩ := (rd.below hb).ndAt hlt
        have i1 : (0 : Int) ≤ k := by omega
        have i2 : (k : Int) < q := by omega
        have hxd := HDS.out x (List.mem_of_getElem? hx)
        have hpb := price_bd pr x.code
        have hmb := mul_bd hxd.1 hxd.2 hpb.1 hpb.2
        have hwb := want_bd (pr := pr) (s := s) HDS.out k (by rw [hld.out]; omega)
        have NX := Lib.hid (want_next (pr := pr) (s := s) hx)
        have k1 : IntKind.i64.wrap (x.qty * priceIn pr x.code) = x.qty * priceIn pr x.code := IntWalk.i64_in _ (by omega)
        have k2 : IntKind.i64.wrap (wantAt pr ds s k + x.qty * priceIn pr x.code) = wantAt pr ds s k + x.qty * priceIn pr x.code := IntWalk.i64_in _ (by omega)
        have a0 := cell_wext x0; have a1 := cell_wext x1
        have rpx := rp.below hb
        clear hx hxd hpb hmb hwb
        go_wp2_with fail
        refine wp_region_ext (by kernel_rfl) (by kernel_rfl) ?_
        repeat (go_big_quiet_step ((go_at_call 26; exact ext_call (specPriceIn P np cp pr x.code _ (rpx.wext _) (by omega)))))
        refine wpQuiet_nil ?_
        intro _ hw'; obtain ⟨nq, hw''⟩ := hw'; subst hw''
        go_wp2_with fail
        go_roundw
        case rel => exact ⟨k + 1, by omega, by go_num, by rw [NX.out], below_app hb (below_wext _ _) hb.size⟩
        case measure => simp [intOf]; omega
      · obtain rfl : q = k := by omega
        have bE := below_app b5 hb b5.size
        have wq := want_all (pr := pr) (s := s) hld.out
        cases b
        · go_wp2_with fail
          go_ret
          exact ⟨rfl, bE⟩
        · have hv : v = wantAt pr ds s q := by rw [wq, HT.out rfl, HV.out]; exact std_T HIS.out.symm
          subst hv
          clear wq
          go_wp2_with fail
          go_ret
          exact ⟨rfl, bE⟩

set_option maxRecDepth 100000 in
theorem lifted (os : Os) (started : os.Started) (H : Type) (enc : TypeId × Value → H) :
    ReturnsInHanded {} Try.checked os 5 .any (Rows.fnStandardSpec.pre6 enc Try.prog Try.f5 Rows.fnStandardRow.domain false) (Rows.fnStandardSpec.post enc Try.prog Try.f5 false true false false) := by
  refine returnsInHanded_of_change (C := Try.checked) Try.own started (by kernel_rfl) Try.func5
    (ChangeSpec.witness6 (enc := enc) (C := Try.checked) false ⟨#[], #[.slice none 0 0], []⟩ 8 (by kernel_rfl) (by kernel_rfl) (by kernel_rfl) (by kernel_rfl)) ?_
  intro W base args ds gs before hval0 hW hcnd _
  have hval : ∀ (j : Nat) t v, Try.f5.params[j]? = some t → args[j]? = some v → Value.okWide Try.prog W .any base t v := hval0
  have hW' := hW
  obtain ⟨p, q, hA0, hV, rfl, hfz, hnd⟩ := hW
  have hA : DataW.TrodAll enc Try.prog W 0 (fun _ => true) true Try.f5.params.toList args.toList ds p := hA0
  rw [Try.params5] at hA hval
  obtain ⟨v0, vs0, d0, ds0, p0, q0, hargs, rfl, rfl, h0, r0⟩ := trodAll_cons hA
  obtain ⟨rfl, rfl, rfl⟩ := trodAll_nil r0
  obtain rfl : args = #[v0] := by cases args; simp_all
  obtain ⟨rfl, rfl⟩ := trodVars_none hV
  obtain ⟨Al, nl, cl, l, rfl, hrl, hnl, hokl⟩ := open_bytes (hval 0 47 v0 rfl rfl) h0
  refine (walk W Al nl cl l hrl hnl hokl).mono fun e W' ⟨he, hb⟩ => ?_
  subst he
  exact ⟨_, rfl, law_post Try.laidOut (by kernel_rfl) (by kernel_rfl) Try.underlying4 hW' rfl ⟨rfl, rfl, rfl⟩ hb⟩

theorem proved : Rows.FnStandardSaid :=
  OpenClaim.holds_of_wide 5 Try.f5 rfl rfl rfl rfl rfl rfl rfl ⟨rfl, rfl, rfl, rfl, rfl⟩ rfl rfl rfl rfl rfl (by kernel_rfl) Try.func5 (by kernel_rfl)
    (of_decide_eq_true (by kernel_rfl)) (by unfold Func.isWrapper; first | (rw [if_pos (by decide +kernel)]; kernel_rfl) | (rw [if_neg (by decide +kernel)]; exact ⟨rfl, rfl⟩))
    (fun os started H enc _ => lifted os started H enc)
#print axioms proved
end Go.Proofs.Ytnhkpdaogclfjaa.fnStandard
