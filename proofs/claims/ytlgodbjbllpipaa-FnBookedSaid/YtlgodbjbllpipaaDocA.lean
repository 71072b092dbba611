/- Documents: the walks of the laws' helpers: size, copy, equality. -/
import Derived.Test.YtlgodbjbllpipaaDoc
import Derived.Laws.Rows
namespace Go.Proofs.Ytlgodbjbllpipaa
open Go.ChangeShapes Go.WideShapes Go.ChangeAt Go.RowKit Go.Deep

def docSz (d : Doc) : Int := d.ents.length + sumF enSz d.ents d.ents.length
theorem docSz_nonneg (d : Doc) : 0 ≤ docSz d := by
  unfold docSz
  have := sumF_nonneg (f := enSz) (l := d.ents) (fun y _ => enSz_nonneg y) d.ents.length
  omega
theorem sumF_mem {α : Type} {f : α → Int} {l : List α} (h : ∀ x ∈ l, 0 ≤ f x) {x : α} (hx : x ∈ l) : f x ≤ sumF f l l.length := by
  obtain ⟨k, hk, rfl⟩ := List.getElem_of_mem hx
  have hg : l[k]? = some l[k] := List.getElem?_eq_getElem hk
  have h1 := sumF_mono h (show k + 1 ≤ l.length by omega) (Nat.le_refl _)
  rw [sumF_succ f hg] at h1
  have := sumF_nonneg h k
  omega
theorem docs_small {l : List Doc} {n : Nat} (hl : l.length = n) (hs : sumF docSz l n ≤ 1048576) : ∀ d ∈ l, d.ents.length ≤ 1048576 := by
  intro d hd
  have h1 := sumF_mem (f := docSz) (l := l) (fun x _ => docSz_nonneg x) hd
  rw [hl] at h1
  have h2 := sumF_nonneg (f := enSz) (l := d.ents) (fun y _ => enSz_nonneg y) d.ents.length
  have h3 : docSz d = d.ents.length + sumF enSz d.ents d.ents.length := rfl
  omega
theorem szDocument_any (a b : Int) (A : Option Addr) (n c : Nat) (l : List En) (left : Int) (w : World) (hr : RS w 2 A n (l.flatMap enCell)) (hn : n ≤ 9223372036854775807) (hok : ∀ x ∈ l, enOk x) (h0 : 0 ≤ left) (h1 : left ≤ 1048576) :
    Calls Try.prog 69 #[.agg #[.int .i64 a, .int .i64 b, .slice A n c], .int .i64 left] w fun e w' => e = .returned (.int .i64 (szRes left (docSz ⟨a, b, l⟩))) ∧ Below w.heap.size w w' := by
  have hl := hr.flatLen enCell_len (by omega)
  have E := Lib.hid (show docSz ⟨a, b, l⟩ = n + sumF enSz l n by simp only [docSz]; rw [hl])
  have OK := Lib.hid hok
  clear hl hok
  rw [E.out]
  have nn := docSz_nonneg ⟨a, b, l⟩
  rw [E.out] at nn
  obtain ⟨t, ht⟩ : ∃ t, (n : Int) + sumF enSz l n = t := ⟨_, rfl⟩
  rw [ht] at nn ⊢
  have HT := Lib.hid ht
  clear ht
  by_cases hs : left < t
  · have R := Lib.hid (szRes_no hs)
    go_enter Try.func69, Try.ntmps69
    go_wp2_with fail
    refine (szEntryS_any _ _ _ l _ _ (hr.alloc _) hn OK.out h0 h1).mono ?_; rw [HT.out, R.out]; rintro e w1 ⟨rfl, hb1⟩
    go_wp2_with fail
    go_ret
    exact ⟨ret_int (by rw [R.out]), below_then (below_box w _) hb1⟩
  · have R := Lib.hid (szRes_yes (Int.not_lt.1 hs))
    go_enter Try.func69, Try.ntmps69
    go_wp2_with fail
    refine (szEntryS_any _ _ _ l _ _ (hr.alloc _) hn OK.out h0 h1).mono ?_; rw [HT.out, R.out]; rintro e w1 ⟨rfl, hb1⟩
    go_wp2_with fail
    go_ret
    exact ⟨ret_int (by rw [R.out]), below_then (below_box w _) hb1⟩
set_option maxHeartbeats 1000000 in
theorem szDocumentS_any (A : Option Addr) (n c : Nat) (l : List Doc) (left : Int) (w : World) (hr : DocsR w A n l) (hn : n ≤ 9223372036854775807) (hok : ∀ x ∈ l, docOk x) (h0 : 0 ≤ left) (h1 : left ≤ 1048576) :
    Calls Try.prog 34 #[.slice A n c, .int .i64 left] w fun e w' => e = .returned (.int .i64 (szRes left (n + sumF docSz l n))) ∧ Below w.heap.size w w' := by
  have hl := Lib.hid hr.len
  have NN := Lib.hid (fun k => sumF_nonneg (f := docSz) (l := l) (fun x _ => docSz_nonneg x) k)
  have MO := Lib.hid (fun k (hk : k ≤ n) => sumF_mono (f := docSz) (l := l) (fun x _ => docSz_nonneg x) hk (by rw [hl.out]; exact Nat.le_refl _))
  have OK := Lib.hid hok; clear hok
  by_cases hln : left - n < 0
  · have e0 := Lib.hid (show szRes left (n + sumF docSz l n) = -1 by rw [szRes_no (by have := NN.out n; omega)])
    go_enter Try.func34, Try.ntmps34
    go_wp2_with fail
    go_ret
    exact ⟨ret_int (by rw [e0.out]), Below.refl _ _⟩
  · go_enter Try.func34, Try.ntmps34
    go_wp2_with fail
    go_loopw [1, 5] (fun t i wr => ∃ k : Nat, k ≤ n ∧ i = .int .i64 k ∧ t = .int .i64 (left - n - sumF docSz l k) ∧ 0 ≤ left - n - sumF docSz l k ∧ Below w.heap.size w wr) (fun _ i _ => n - (intOf i).toNat)
    case atStart => exact ⟨0, Nat.zero_le _, rfl, by rw [sumF_zero]; simp, by rw [sumF_zero]; omega, Below.refl _ _⟩
    case round =>
      obtain ⟨k, hk, rfl, rfl, hge, hb⟩ := hrel
      have nn := NN.out k
      by_cases hlt : k < n
      · obtain ⟨g, off, rfl, ⟨num, day, ents⟩, eA, en, ec, hx, h0', h1', h2', hre⟩ := (hr.below hb).docAt hlt
        have hs := Lib.hid (OK.out _ (List.mem_of_getElem? hx))
        have HS := Lib.hid (sumF_succ docSz hx)
        have mo := MO.out (k + 1) (by omega)
        rw [HS.out] at mo
        have sn := docSz_nonneg ⟨num, day, ents⟩
        have el := Lib.hid (hre.flatLen enCell_len (by omega))
        have en64 : en ≤ 9223372036854775807 := by have := hs.out.2.2.1; simp only at this; rw [el.out] at this; exact this
        simp only at h0' h1'
        have i1 : (0 : Int) ≤ k := by omega
        have i2 : (k : Int) < n := by omega
        clear hx
        by_cases hneg : left - n - sumF docSz l k - docSz ⟨num, day, ents⟩ < 0
        · have e0 := Lib.hid (show szRes left (n + sumF docSz l n) = -1 by rw [szRes_no (by omega)])
          go_wp2_with fail
          refine (szDocument_any num day _ _ _ ents _ _ hre en64 hs.out.2.2.2 hge (by omega)).mono ?_; rw [szRes_no (by omega)]; rintro e w1 ⟨rfl, hb1⟩
          go_wp2_with fail
          go_ret
          exact ⟨ret_int (by rw [e0.out]), below_app hb hb1 hb.size⟩
        · go_wp2_with fail
          refine (szDocument_any num day _ _ _ ents _ _ hre en64 hs.out.2.2.2 hge (by omega)).mono ?_; rw [szRes_yes (by omega)]; rintro e w1 ⟨rfl, hb1⟩
          go_wp2_with fail
          go_roundw
          case rel => exact ⟨k + 1, by omega, by go_num, by rw [HS.out]; go_num, by rw [HS.out]; omega, below_app hb hb1 hb.size⟩
          case measure => simp [intOf]; omega
      · obtain rfl : n = k := by omega
        have e0 := Lib.hid (show szRes left (n + sumF docSz l n) = left - n - sumF docSz l n by rw [szRes_yes (by omega)]; omega)
        go_wp2_with fail
        go_ret
        exact ⟨ret_int (by rw [e0.out]), hb⟩
theorem eqDocument_true (a b : Int) (A : Option Addr) (n c : Nat) (A' : Option Addr) (n' c' : Nat) (l : List En) (w : World) (hr : RS w 2 A n (l.flatMap enCell)) (hr' : RS w 2 A' n' (l.flatMap enCell)) (hn : n ≤ 9223372036854775807) (hn' : n' ≤ 9223372036854775807) :
    Calls Try.prog 73 #[.agg #[.int .i64 a, .int .i64 b, .slice A n c], .agg #[.int .i64 a, .int .i64 b, .slice A' n' c']] w fun e w' => e = .returned (.bool true) ∧ Below w.heap.size w w' := by
  go_enter Try.func73, Try.ntmps73
  go_wp2_with fail
  refine (eqEntryS_true _ _ _ l _ _ _ l _ ((hr.alloc _).alloc _) ((hr'.alloc _).alloc _) hn hn' rfl).mono ?_; rintro e w1 ⟨rfl, hb1⟩
  go_wp2_with fail
  go_ret
  exact ⟨rfl, below_then (below_then (below_box w _) (below_box _ _)) hb1⟩
set_option maxHeartbeats 1000000 in
theorem eqDocumentS_true (A : Option Addr) (n c : Nat) (l : List Doc) (A' : Option Addr) (n' c' : Nat) (l' : List Doc) (w : World) (hr : DocsR w A n l) (hr' : DocsR w A' n' l') (hn : n ≤ 9223372036854775807) (hn' : n' ≤ 9223372036854775807) (hok : ∀ d ∈ l, d.ents.length ≤ 9223372036854775807) (heq : l = l') :
    Calls Try.prog 40 #[.slice A n c, .slice A' n' c'] w fun e w' => e = .returned (.bool true) ∧ Below w.heap.size w w' := by
  have hl := hr.len
  have hl' := hr'.len
  obtain rfl : n = n' := by rw [← hl, ← hl', heq]
  have HE := Lib.hid heq; have OK := Lib.hid hok; clear heq hl hl' hok
  go_enter Try.func40, Try.ntmps40
  go_wp2
  go_loopw [5] (fun i wr => ∃ k : Nat, k ≤ n ∧ i = .int .i64 k ∧ Below w.heap.size w wr) (fun i _ => n - (intOf i).toNat)
  case atStart => exact ⟨0, Nat.zero_le _, rfl, Below.refl _ _⟩
  case round =>
    obtain ⟨k, hk, rfl, hb⟩ := hrel
    by_cases hlt : k < n
    · obtain ⟨g, off, rfl, x, eA, en, ec, hx, h0, h1, h2, hre⟩ := (hr.below hb).docAt hlt
      obtain ⟨g', off', rfl, x', eA', en', ec', hx', k0, k1, k2, hre'⟩ := (hr'.below hb).docAt hlt
      have hle := OK.out x (List.mem_of_getElem? hx)
      rw [HE.out, hx'] at hx
      obtain rfl : x' = x := by simpa using hx
      clear hx hx'
      obtain ⟨num, day, ents⟩ := x'
      simp only at h0 h1 h2 hre k0 k1 k2 hre' hle
      have z1 := hre.flatLen enCell_len (by omega)
      have z2 := hre'.flatLen enCell_len (by omega)
      have n1 : en ≤ 9223372036854775807 := by omega
      have n2 : en' ≤ 9223372036854775807 := by omega
      have i1 : (0 : Int) ≤ k := by omega
      have i2 : (k : Int) < n := by omega
      have a0 := cell_wext h0; have a1 := cell_wext h1; have a2 := cell_wext h2; have b0 := cell_wext k0; have b1 := cell_wext k1; have b2 := cell_wext k2
      clear z1 z2
      go_wp2
      refine wp_region_ext (by kernel_rfl) (by kernel_rfl) ?_
      repeat (go_big_quiet_step ((go_at_call 73; exact ext_call (eqDocument_true _ _ _ _ _ _ _ _ ents _ (hre.wext _) (hre'.wext _) n1 n2))))
      refine wpQuiet_nil ?_
      intro _ hw'; obtain ⟨nq, hw''⟩ := hw'; subst hw''
      go_wp2
      go_roundw
      case rel => exact ⟨k + 1, by omega, by go_num, below_app hb (below_wext _ _) hb.size⟩
      case measure => simp [intOf]; omega
    · go_wp2
      have : k = n := by omega
      subst this
      go_ret
      exact ⟨rfl, hb⟩
set_option maxHeartbeats 1000000 in
theorem toDocument_any (a b : Int) (A : Option Addr) (n c : Nat) (l : List En) (w : World) (hr : RS w 2 A n (l.flatMap enCell)) (hn : n ≤ 1048576) :
    Calls Try.prog 71 #[.agg #[.int .i64 a, .int .i64 b, .slice A n c]] w fun e w' => ∃ A' c', e = .returned (.agg #[.int .i64 a, .int .i64 b, .slice A' n c']) ∧ w'.ownsRow (w.heap.size + 1) 66 2 (.slice A' n c') n (l.flatMap enCell) ∧ Below w.heap.size w w' := by
  go_enter Try.func71, Try.ntmps71
  go_wp2_with fail
  refine (toEntryS_any _ _ _ l _ (((hr.alloc _).alloc _).alloc _) hn).mono ?_; rintro e w1 ⟨A1, c1, rfl, o1, hb1⟩
  have R := Lib.hid (blk_keep hb1 (blk_alloc (blk_new2 w _ _) _))
  have O := Lib.hid (blk_keep hb1 (blk_new3 w _ _ _))
  have r0 := blk_at R.out (j := 0) rfl; have r1 := blk_at R.out (j := 1) rfl; have r2 := blk_at R.out (j := 2) rfl; have rf := blk_free R.out
  have o0 := blk_at O.out (j := 0) rfl; have o1' := blk_at O.out (j := 1) rfl; have o2 := blk_at O.out (j := 2) rfl; have of := blk_free O.out
  have b1 := below_then (below_then (below_then (below_box w _) (below_box _ _)) (below_box _ _)) hb1
  simp only [World.size_alloc] at o1
  clear hb1
  go_wp2_with fail
  refine bodyPost_ret (v := .agg #[.int .i64 a, .int .i64 b, .slice A1 n c1]) (by simp [results, Try.results71, go_sem, r0, r1, r2]) rfl ⟨A1, c1, rfl, ?_, ?_⟩
  · have ho : ∀ (W : World) (p : Addr) (u : Value), W.ownsRow (w.heap.size + 1 + 1 + 1) 66 2 (.slice A1 n c1) n (l.flatMap enCell) → p.block < w.heap.size + 1 + 1 + 1 → (W.setCell p u).ownsRow (w.heap.size + 1 + 1 + 1) 66 2 (.slice A1 n c1) n (l.flatMap enCell) := fun W p u h hp =>
      own_grown h (grown_set W p u) (by
        cases hv : (Value.slice A1 n c1).ownBlock with
        | none => exact .inl rfl
        | some k => refine .inr fun he => ?_
                    have := (h.lt k hv).1
                    injection he with he
                    omega)
    refine own_base ?_ (show w.heap.size + 1 ≤ w.heap.size + 1 + 1 + 1 by omega)
    repeat (refine ho _ _ _ ?_ (by simp only; omega))
    exact o1
  · repeat (refine Below.setCell ?_ (by simp only; omega) _)
    exact b1
set_option maxHeartbeats 2000000 in
theorem toDocumentS_any (A : Option Addr) (n c : Nat) (l : List Doc) (w : World) (hr : DocsR w A n l) (hn : n ≤ 1048576) (hle : ∀ d ∈ l, d.ents.length ≤ 1048576) :
    Calls Try.prog 36 #[.slice A n c] w fun e w' => ∃ A' c', e = .returned (.slice A' n c') ∧ DocsOwn w' w.heap.size w'.heap.size (.slice A' n c') n l ∧ Below w.heap.size w w' := by
  have hl := Lib.hid hr.len
  have LE := Lib.hid hle; clear hle
  obtain ⟨i0, hi, hz0, hz1, hz2⟩ := info_parts docInfo
  go_enter Try.func36, Try.ntmps36
  go_wp2_with (at_make; refine wpList_make_full _ rfl _ _ _ rfl w.heap.size 64 i0 _ 3 Try.underlying29 hi hz0 hz1 _ _ _ _ n rfl rfl rfl rfl (by rw [hz2]; omega) (by unfold maxLen; omega) (Nat.le_refl _) ?_; intro w1 hown1 hg1)
  have hb1 : Below w.heap.size w w1 := ⟨hg1.os, hg1.tape, hg1.output, hg1.size, fun k hk => hg1.block k hk (by simp)⟩
  have z1 : 0 < n → w.heap.size < w1.heap.size := fun h => by
    obtain ⟨g, e, _, h2, _⟩ := own_addr hown1 h
    injection e with e
    injection e with e
    omega
  have Z1 := Lib.hid z1; clear z1
  clear hg1
  go_loopw [4] (fun i wr => ∃ (k : Nat) (vs : List DV), k ≤ n ∧ i = .int .i64 k ∧ Below w.heap.size w wr ∧ w1.heap.size ≤ wr.heap.size ∧ vs.length = k ∧ ∃ xs, wr.ownsRow w.heap.size 64 3 (.slice (some ⟨w.heap.size, 0, none⟩) n n) n xs ∧ Hid (xs.take (k * 3) = vs.flatMap dvCell) ∧
      Hid (∀ (i : Nat) (x : DV) (d : Doc), vs[i]? = some x → l[i]? = some d → x.num = d.num ∧ x.day = d.day ∧ wr.ownsRow (w.heap.size + 1) 66 2 (dvRow x) x.en (d.ents.flatMap enCell)) ∧
      Hid (∀ (i j : Nat) (x y : DV), i < j → vs[i]? = some x → vs[j]? = some y → Apart (dvRow x) (dvRow y))) (fun i _ => n - (intOf i).toNat)
  case atStart => exact ⟨0, [], Nat.zero_le _, rfl, hb1, Nat.le_refl _, rfl, _, hown1, by simp [Hid], fun i x d h => absurd h (by simp), fun i j x y _ h => absurd h (by simp)⟩
  case round =>
    obtain ⟨k, vs, hk, rfl, hb, hw1, hvl, xs, hown, htk, hin, hap⟩ := hrel
    clear hb1 hown1
    by_cases hlt : k < n
    · obtain ⟨g, off, rfl, ⟨num, day, ents⟩, eA, en, ec, hx, h0, h1, h2, hre⟩ := (hr.below hb).docAt hlt
      have hle := LE.out _ (List.mem_of_getElem? hx)
      have el := hre.flatLen enCell_len (by omega)
      simp only at h0 h1 h2 hre hle el
      have en1 : en ≤ 1048576 := by omega
      have HX := Lib.hid hx; have HV := Lib.hid hvl; clear hx el hvl
      go_wp2_with (go_at_call 71; refine (toDocument_any num day _ _ _ ents _ hre en1).mono ?_; rintro e w2 ⟨A2, c2, rfl, o2, hb2⟩; have hown2 := own_below hown hb2; obtain ⟨d0, hd0⟩ := own_cells hown2 (j := k * 3) (by omega); obtain ⟨d1, hd1⟩ := own_cells hown2 (j := k * 3 + 1) (by omega); obtain ⟨d2, hd2⟩ := own_cells hown2 (j := k * 3 + 2) (by omega); have hf := fun j => hown2.frozenAt j)
      go_roundw
      case rel =>
        obtain ⟨y0, p0, t0⟩ := own_fill (.int .i64 num) hown2 htk.out rfl (by omega)
        obtain ⟨y1, p1, t1⟩ := own_fill (.int .i64 day) p0 t0 rfl (by omega)
        obtain ⟨y2, p2, t2⟩ := own_fill (.slice A2 en c2) p1 t1 rfl (by omega)
        have zz := hb2.size
        have kp : ∀ (v : Value) (m : Nat) (ys : List Value), w2.ownsRow (w.heap.size + 1) 66 2 v m ys → (((w2.setCell ⟨w.heap.size, k * 3, none⟩ (.int .i64 num)).setCell ⟨w.heap.size, k * 3 + 1, none⟩ (.int .i64 day)).setCell ⟨w.heap.size, k * 3 + 2, none⟩ (.slice A2 en c2)).ownsRow (w.heap.size + 1) 66 2 v m ys := fun v m ys h => by
          have ne : ∀ W : World, W.ownsRow (w.heap.size + 1) 66 2 v m ys → v.ownBlock = none ∨ v.ownBlock ≠ some w.heap.size := fun W h => by
            cases hv : v.ownBlock with
            | none => exact .inl rfl
            | some q => refine .inr fun he => ?_
                        have := (h.lt q hv).1
                        injection he with he
                        omega
          have s1 := own_grown h (grown_set w2 ⟨w.heap.size, k * 3, none⟩ (.int .i64 num)) (ne _ h)
          have s2 := own_grown s1 (grown_set _ ⟨w.heap.size, k * 3 + 1, none⟩ (.int .i64 day)) (ne _ s1)
          exact own_grown s2 (grown_set _ ⟨w.heap.size, k * 3 + 2, none⟩ (.slice A2 en c2)) (ne _ s2)
        have zk := Z1.out (by omega)
        refine ⟨k + 1, vs ++ [⟨num, day, A2, en, c2⟩], by omega, by go_num, (((below_app hb hb2 hb.size).setCell (Nat.le_refl _) _).setCell (Nat.le_refl _) _).setCell (Nat.le_refl _) _, by simp [World.setCell]; omega, by simp [HV.out], y2, p2, ?_, ?_, ?_⟩
        · show y2.take ((k + 1) * 3) = _
          rw [show (k + 1) * 3 = k * 3 + 1 + 1 + 1 by omega, t2, flat_append]
          simp [dvCell]
        · intro i x d hxi hdi
          rcases Nat.lt_or_ge i k with hik | hik
          · rw [List.getElem?_append_left (by rw [HV.out]; exact hik)] at hxi
            obtain ⟨a, b, o⟩ := hin.out i x d hxi hdi
            exact ⟨a, b, kp _ _ _ (own_below o hb2)⟩
          · have hik' : i = k := by
              have := (List.getElem?_eq_some_iff.1 hxi).1
              simp [HV.out] at this; omega
            subst hik'
            rw [List.getElem?_append_right (by rw [HV.out]; exact Nat.le_refl _), HV.out, Nat.sub_self] at hxi
            simp at hxi
            rw [HX.out] at hdi
            injection hdi with hdi
            subst hxi hdi
            exact ⟨rfl, rfl, kp _ _ _ (own_base o2 (by omega))⟩
        · intro i j x y hij hxi hyj
          rcases Nat.lt_or_ge j k with hjk | hjk
          · rw [List.getElem?_append_left (by rw [HV.out]; omega)] at hxi
            rw [List.getElem?_append_left (by rw [HV.out]; exact hjk)] at hyj
            exact hap.out i j x y hij hxi hyj
          · have hjk' : j = k := by
              have := (List.getElem?_eq_some_iff.1 hyj).1
              simp [HV.out] at this; omega
            subst hjk'
            rw [List.getElem?_append_left (by rw [HV.out]; exact hij)] at hxi
            rw [List.getElem?_append_right (by rw [HV.out]; exact Nat.le_refl _), HV.out, Nat.sub_self] at hyj
            simp at hyj
            subst hyj
            obtain ⟨di, hdi⟩ : ∃ d, l[i]? = some d := ⟨_, List.getElem?_eq_getElem (by rw [hl.out]; omega)⟩
            obtain ⟨_, _, o⟩ := hin.out i x di hxi hdi
            exact own_apart o o2 (by omega)
      case measure => simp [intOf]; omega
    · go_wp2
      have : k = n := by omega
      subst this
      go_ret
      refine ⟨_, _, rfl, ⟨vs, ?_, ?_, ?_, ?_, hap.out⟩, hb⟩
      · rw [take_all htk.out (own_len hown)] at hown
        exact hown
      · rw [hvl, hl.out]
      · intro q hq
        exact (hown.lt q hq).2
      · intro i x d hx hd
        obtain ⟨a, b, o⟩ := hin.out i x d hx hd
        exact ⟨a, b, own_base o (by omega), fun q hq => (o.lt q hq).2⟩
end Go.Proofs.Ytlgodbjbllpipaa
