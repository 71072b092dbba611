/- Shelves and books: the walks of the laws' helpers that copy. -/
import Derived.Test.YtlgodbjbllpipaaShelfA
namespace Go.Proofs.Ytlgodbjbllpipaa
open Go.ChangeShapes Go.WideShapes Go.ChangeAt Go.RowKit Go.Deep

theorem own_set {w : World} {base size n : Nat} {e : TypeId} {v : Value} {xs : List Value} (h : w.ownsRow base e size v n xs) (p : Addr) (u : Value) (hp : p.block < base) : (w.setCell p u).ownsRow base e size v n xs :=
  own_grown h (grown_set w p u) (by
    cases hv : v.ownBlock with
    | none => exact .inl rfl
    | some k => refine .inr fun he => ?_
                have := (h.lt k hv).1
                injection he with he
                omega)
theorem Owns.set {w : World} {lo hi : Nat} {rs : List Row} (h : Owns w lo hi rs) (p : Addr) (u : Value) (hp : p.block < lo) : Owns (w.setCell p u) lo hi rs :=
  h.within (Within.of_grown (grown_set w p u) (lo := p.block) (hi := p.block + 1) (fun k hk => by injection hk with hk; omega)) (.inr hp)
theorem ShelvesO.set {w : World} {lo hi n : Nat} {v : Value} {ss : List Shf} {rest : List Row} (h : ShelvesO w lo hi v n ss rest) (p : Addr) (u : Value) (hp : p.block < lo) : ShelvesO (w.setCell p u) lo hi v n ss rest := let ⟨vs, h1, h2⟩ := h; ⟨vs, h1, h2.set p u hp⟩
theorem BooksO.set {w : World} {lo hi n m : Nat} {v v' : Value} {ss : List Shf} {ds : List Doc} (h : BooksO w lo hi v n ss v' m ds) (p : Addr) (u : Value) (hp : p.block < lo) : BooksO (w.setCell p u) lo hi v n ss v' m ds := let ⟨vs, h1, h2⟩ := h; ⟨vs, h1, h2.set p u hp⟩
set_option maxHeartbeats 2000000 in
theorem toShelf_any (s : Shf) (iA : Option Addr) (iN iC : Nat) (lA : Option Addr) (lN lC : Nat) (w : World) (hi : RS w 1 iA iN (intCells s.ids)) (hl : RS w 3 lA lN (layCells s.lays)) (h1 : iN ≤ 1048576) (h2 : lN ≤ 1048576) :
    Calls Try.prog 70 #[.agg #[.string s.item, .slice iA iN iC, .slice lA lN lC]] w fun e w' => ∃ A c B d, e = .returned (.agg #[.string s.item, .slice A iN c, .slice B lN d]) ∧
      Owns w' w.heap.size w'.heap.size [idRow ⟨s.item, A, iN, c, B, lN, d⟩ s, layRow ⟨s.item, A, iN, c, B, lN, d⟩ s] ∧ Below w.heap.size w w' := by
  obtain ⟨item, ids, lays⟩ := s
  simp only at hi hl
  go_enter Try.func70, Try.ntmps70
  go_wp2_with fail
  refine (toIntS_any _ _ _ ids _ (hi.below (by go_grown)) h1).mono ?_; rintro e w1 ⟨A1, c1, rfl, o1, hb1⟩
  have Q := Lib.hid (blk_keep hb1 (blk_alloc (blk_alloc (blk_new1 w _) _) _))
  have R := Lib.hid (blk_keep hb1 (blk_alloc (blk_new2 w _ _) _))
  have O := Lib.hid (blk_keep hb1 (blk_new3 w _ _ _))
  have q2 := blk_at Q.out (j := 2) rfl
  have r0 := blk_at R.out (j := 0) rfl; have r1 := blk_at R.out (j := 1) rfl; have r2 := blk_at R.out (j := 2) rfl; have rf := blk_free R.out
  have o0 := blk_at O.out (j := 0) rfl; have o1' := blk_at O.out (j := 1) rfl; have o2 := blk_at O.out (j := 2) rfl; have of := blk_free O.out
  have b1 := below_then (below_then (below_then (below_box w _) (below_box _ _)) (below_box _ _)) hb1
  have z1 := hb1.size
  simp only [World.size_alloc] at o1 z1
  clear hb1
  go_wp2_with fail
  refine (toLayerS_any _ _ _ lays _ (hl.below (b1.setCell (by simp only; omega) _)) h2).mono ?_; rintro e w2 ⟨A2, c2, rfl, o3, hb2⟩
  have p0 := cell_keep hb2 (p := ⟨w.heap.size + 1 + 1, 0, none⟩) (v := .string item) (by simp [go_sem, o0])
  have p1 := cell_keep hb2 (p := ⟨w.heap.size + 1 + 1, 1, none⟩) (v := .slice A1 iN c1) (by simp [go_sem, o1'])
  have p2 := cell_keep hb2 (p := ⟨w.heap.size + 1 + 1, 2, none⟩) (v := .slice none 0 0) (by simp [go_sem, o2])
  have pf : ∀ j, w2.frozen? ⟨w.heap.size + 1 + 1, j, none⟩ = false := fun j => (hb2.frozen (p := ⟨w.heap.size + 1 + 1, j, none⟩) (by simp [World.setCell]; omega)).trans (by simp [go_sem, of])
  have s0 := cell_keep hb2 (p := ⟨w.heap.size + 1, 0, none⟩) (by simp [go_sem, r0]; rfl)
  have s1 := cell_keep hb2 (p := ⟨w.heap.size + 1, 1, none⟩) (by simp [go_sem, r1]; rfl)
  have s2 := cell_keep hb2 (p := ⟨w.heap.size + 1, 2, none⟩) (by simp [go_sem, r2]; rfl)
  have sf : ∀ j, w2.frozen? ⟨w.heap.size + 1, j, none⟩ = false := fun j => (hb2.frozen (p := ⟨w.heap.size + 1, j, none⟩) (by simp [World.setCell]; omega)).trans (by simp [go_sem, rf])
  have OW := Lib.hid ((Owns.one (own_set o1 ⟨w.heap.size + 1 + 1, 1, none⟩ (.slice A1 iN c1) (by simp only; omega))).cons hb2 o3 (Nat.le_refl _) (by simp [World.setCell]; omega))
  have b2 := Lib.hid (below_then (b1.setCell (by simp only; omega) (.slice A1 iN c1)) hb2)
  clear hb2 b1 o1 o3 z1 q2 r0 r1 r2 rf o0 o1' o2 of
  go_wp2_with fail
  refine bodyPost_ret (v := .agg #[.string item, .slice A1 iN c1, .slice A2 lN c2]) (by simp [results, Try.results70, go_sem, s0, s1, s2]) rfl ⟨A1, c1, A2, c2, rfl, ?_, ?_⟩
  · refine Owns.mono (Owns.top (lo := w.heap.size + 1 + 1 + 1) (hi := w2.heap.size) ?_) (by omega) (Nat.le_refl _)
    repeat (refine Owns.set ?_ _ _ (by simp only; omega))
    exact OW.out.perm (List.Perm.swap _ _ _)
  · repeat (refine Below.setCell ?_ (by simp only; omega) _)
    exact b2.out
set_option maxHeartbeats 2000000 in
theorem toShelfS_any (A : Option Addr) (n c : Nat) (l : List Shf) (w : World) (hr : ShelvesR w A n l) (hn : n ≤ 1048576) (hle : ∀ s ∈ l, s.item.size ≤ 1048576 ∧ s.ids.length ≤ 1048576 ∧ s.lays.length ≤ 1048576) :
    Calls Try.prog 35 #[.slice A n c] w fun e w' => ∃ A' c', e = .returned (.slice A' n c') ∧ ShelvesO w' w.heap.size w'.heap.size (.slice A' n c') n l [] ∧ Below w.heap.size w w' := by
  have hl := Lib.hid hr.len
  have LE := Lib.hid hle; clear hle
  obtain ⟨i0, hi, hz0, hz1, hz2⟩ := info_parts shfInfo
  go_enter Try.func35, Try.ntmps35
  go_wp2_with (at_make; refine wpList_make_full _ rfl _ _ _ rfl w.heap.size 59 i0 _ 3 Try.underlying28 hi hz0 hz1 _ _ _ _ n rfl rfl rfl rfl (by rw [hz2]; omega) (by unfold maxLen; omega) (Nat.le_refl _) ?_; intro w1 hown1 hg1)
  have hb1 : Below w.heap.size w w1 := ⟨hg1.os, hg1.tape, hg1.output, hg1.size, fun k hk => hg1.block k hk (by simp)⟩
  clear hg1
  go_loopw [4] (fun i wr => ∃ (k : Nat) (vs : List SV) (xs : List Value), k ≤ n ∧ i = .int .i64 k ∧ Below w.heap.size w wr ∧ Hid (vs.length = k) ∧ Owns wr w.heap.size wr.heap.size (⟨59, 3, .slice (some ⟨w.heap.size, 0, none⟩) n n, n, xs⟩ :: (List.zipWith idRow vs l ++ List.zipWith layRow vs l)) ∧
      Hid (xs.take (k * 3) = vs.flatMap svCell) ∧ Hid (∀ (i : Nat) (x : SV) (s : Shf), vs[i]? = some x → l[i]? = some s → x.item = s.item)) (fun i _ => n - (intOf i).toNat)
  case atStart => exact ⟨0, [], _, Nat.zero_le _, rfl, hb1, rfl, Owns.one hown1, by simp [Hid], fun i x d h => absurd h (by simp)⟩
  case round =>
    obtain ⟨k, vs, xs, hk, rfl, hb, hvl, hown, htk, hin⟩ := hrel
    clear hb1 hown1
    by_cases hlt : k < n
    · obtain ⟨g, off, rfl, ⟨item, ids, lays⟩, iA, iN, iC, lA, lN, lC, hx, h0, h1, h2, hre, hrf⟩ := (hr.below hb).shAt hlt
      have hle := LE.out _ (List.mem_of_getElem? hx)
      have el := hre.ints
      have fl := hrf.lay
      simp only at h0 h1 h2 hre hrf hle el fl
      have n1 : iN ≤ 1048576 := by omega
      have n2 : lN ≤ 1048576 := by omega
      have HX := Lib.hid hx; clear hx el fl hle
      have zw := hb.size
      go_wp2_with (go_at_call 70; refine (toShelf_any ⟨item, ids, lays⟩ _ _ _ _ _ _ _ hre hrf n1 n2).mono ?_; rintro e w2 ⟨A2, c2, B2, d2, rfl, o2, hb2⟩; have OJ := Lib.hid ((hown.join hb2 o2 (Nat.le_refl _) zw).perm (perm_two _ _ _ _ _)); have hown2 := OJ.out.get (List.mem_cons_self ..); simp only at hown2; obtain ⟨d0, hd0⟩ := own_cells hown2 (j := k * 3) (by omega); obtain ⟨d1, hd1⟩ := own_cells hown2 (j := k * 3 + 1) (by omega); obtain ⟨d2', hd2⟩ := own_cells hown2 (j := k * 3 + 2) (by omega); have hf := fun j => hown2.frozenAt j)
      go_roundw
      case rel =>
        obtain ⟨y0, p0, t0⟩ := own_fill (.string item) hown2 htk.out rfl (by omega)
        obtain ⟨y1, p1, t1⟩ := own_fill (.slice A2 iN c2) p0 t0 rfl (by omega)
        obtain ⟨y2, p2, t2⟩ := own_fill (.slice B2 lN d2) p1 t1 rfl (by omega)
        have T0 := OJ.out.turnIn (i := 0) rfl (grown_set w2 ⟨w.heap.size, k * 3, none⟩ (.string item)) p0 rfl
        have T1 := T0.turnIn (i := 0) rfl (grown_set _ ⟨w.heap.size, k * 3 + 1, none⟩ (.slice A2 iN c2)) p1 rfl
        have T2 := (T1.turnIn (i := 0) rfl (grown_set _ ⟨w.heap.size, k * 3 + 2, none⟩ (.slice B2 lN d2)) p2 rfl).top
        simp only [List.set_cons_zero] at T2
        refine ⟨k + 1, vs ++ [⟨item, A2, iN, c2, B2, lN, d2⟩], y2, by omega, by go_num, (((below_app hb hb2 hb.size).setCell (Nat.le_refl _) _).setCell (Nat.le_refl _) _).setCell (Nat.le_refl _) _, by simp [Hid, hvl.out], ?_, ?_, ?_⟩
        · rw [zip_snoc idRow (by rw [hvl.out]; exact HX.out), zip_snoc layRow (by rw [hvl.out]; exact HX.out)]
          exact T2
        · show y2.take ((k + 1) * 3) = _
          rw [show (k + 1) * 3 = k * 3 + 1 + 1 + 1 by omega, t2, flat_append]
          simp [svCell]
        · intro i x d hxi hdi
          rcases Nat.lt_or_ge i k with hik | hik
          · rw [List.getElem?_append_left (by rw [hvl.out]; exact hik)] at hxi
            exact hin.out i x d hxi hdi
          · have hik' : i = k := by
              have := (List.getElem?_eq_some_iff.1 hxi).1
              simp [hvl.out] at this; omega
            subst hik'
            rw [List.getElem?_append_right (by rw [hvl.out]; exact Nat.le_refl _), hvl.out, Nat.sub_self] at hxi
            simp at hxi
            rw [HX.out] at hdi
            have hdi := Option.some.inj hdi
            subst hxi hdi
            rfl
      case measure => simp [intOf]; omega
    · go_wp2
      have : k = n := by omega
      subst this
      go_ret
      refine ⟨_, _, rfl, ⟨vs, ⟨by rw [hvl.out, hl.out], hin.out⟩, ?_⟩, hb⟩
      have h3 := hown.get (List.mem_cons_self ..)
      rw [take_all htk.out (own_len h3)] at hown
      rw [List.append_nil]
      exact hown
set_option maxHeartbeats 2000000 in
theorem toBooks_any (sA : Option Addr) (sn sc : Nat) (k : Int) (dA : Option Addr) (dn dc : Nat) (ss : List Shf) (ds : List Doc) (w : World) (hr : ShelvesR w sA sn ss) (hd : DocsR w dA dn ds) (h1 : sn ≤ 1048576) (h2 : dn ≤ 1048576)
    (hle : ∀ s ∈ ss, s.item.size ≤ 1048576 ∧ s.ids.length ≤ 1048576 ∧ s.lays.length ≤ 1048576) (hle2 : ∀ d ∈ ds, d.ents.length ≤ 1048576) :
    Calls Try.prog 12 #[.agg #[.slice sA sn sc, .int .i64 k, .slice dA dn dc]] w fun e w' => ∃ A c B d, e = .returned (.agg #[.slice A sn c, .int .i64 k, .slice B dn d]) ∧
      BooksO w' w.heap.size w'.heap.size (.slice A sn c) sn ss (.slice B dn d) dn ds ∧ Below w.heap.size w w' := by
  have LE := Lib.hid hle; have LE2 := Lib.hid hle2
  clear hle hle2
  go_enter Try.func12, Try.ntmps12
  go_wp2_with fail
  refine (toShelfS_any _ _ _ ss _ (hr.below (by go_grown)) h1 LE.out).mono ?_; rintro e w1 ⟨A1, c1, rfl, o1, hb1⟩
  have Q := Lib.hid (blk_keep hb1 (blk_alloc (blk_alloc (blk_new1 w _) _) _))
  have R := Lib.hid (blk_keep hb1 (blk_alloc (blk_new2 w _ _) _))
  have O := Lib.hid (blk_keep hb1 (blk_new3 w _ _ _))
  have q1 := blk_at Q.out (j := 1) rfl; have q2 := blk_at Q.out (j := 2) rfl
  have r0 := blk_at R.out (j := 0) rfl; have r1 := blk_at R.out (j := 1) rfl; have r2 := blk_at R.out (j := 2) rfl; have rf := blk_free R.out
  have o0 := blk_at O.out (j := 0) rfl; have o1' := blk_at O.out (j := 1) rfl; have o2 := blk_at O.out (j := 2) rfl; have of := blk_free O.out
  have b1 := below_then (below_then (below_then (below_box w _) (below_box _ _)) (below_box _ _)) hb1
  have z1 := hb1.size
  simp only [World.size_alloc] at o1 z1
  clear hb1
  go_wp2_with fail
  refine (toDocumentS_any _ _ _ ds _ (hd.below ((b1.setCell (by simp only; omega) _).setCell (by simp only; omega) _)) h2 LE2.out).mono ?_; rintro e w2 ⟨A2, c2, rfl, o3, hb2⟩
  have p0 := cell_keep hb2 (p := ⟨w.heap.size + 1 + 1, 0, none⟩) (v := .slice A1 sn c1) (by simp [go_sem, o0])
  have p1 := cell_keep hb2 (p := ⟨w.heap.size + 1 + 1, 1, none⟩) (v := .int .i64 k) (by simp [go_sem, o1'])
  have p2 := cell_keep hb2 (p := ⟨w.heap.size + 1 + 1, 2, none⟩) (v := .slice none 0 0) (by simp [go_sem, o2])
  have pf : ∀ j, w2.frozen? ⟨w.heap.size + 1 + 1, j, none⟩ = false := fun j => (hb2.frozen (p := ⟨w.heap.size + 1 + 1, j, none⟩) (by simp [World.setCell]; omega)).trans (by simp [go_sem, of])
  have s0 := cell_keep hb2 (p := ⟨w.heap.size + 1, 0, none⟩) (by simp [go_sem, r0]; rfl)
  have s1 := cell_keep hb2 (p := ⟨w.heap.size + 1, 1, none⟩) (by simp [go_sem, r1]; rfl)
  have s2 := cell_keep hb2 (p := ⟨w.heap.size + 1, 2, none⟩) (by simp [go_sem, r2]; rfl)
  have sf : ∀ j, w2.frozen? ⟨w.heap.size + 1, j, none⟩ = false := fun j => (hb2.frozen (p := ⟨w.heap.size + 1, j, none⟩) (by simp [World.setCell]; omega)).trans (by simp [go_sem, rf])
  have o1x := (o1.set ⟨w.heap.size + 1 + 1, 0, none⟩ (.slice A1 sn c1) (by simp only; omega)).set ⟨w.heap.size + 1 + 1, 1, none⟩ (.int .i64 k) (by simp only; omega)
  have OW := Lib.hid (BooksO.of o1x hb2 (DocsO.of_own o3) (Nat.le_refl _) (by simp [World.setCell]; omega))
  have b2 := Lib.hid (below_then ((b1.setCell (by simp only; omega) (.slice A1 sn c1)).setCell (by simp only; omega) (.int .i64 k)) hb2)
  clear hb2 b1 o1 o3 z1 q1 q2 r0 r1 r2 rf o0 o1' o2 of o1x
  go_wp2_with fail
  refine bodyPost_ret (v := .agg #[.slice A1 sn c1, .int .i64 k, .slice A2 dn c2]) (by simp [results, Try.results12, go_sem, s0, s1, s2]) rfl ⟨A1, c1, A2, c2, rfl, ?_, ?_⟩
  · refine BooksO.mono (BooksO.top (lo := w.heap.size + 1 + 1 + 1) (hi := w2.heap.size) ?_) (by omega) (Nat.le_refl _)
    repeat (refine BooksO.set ?_ _ _ (by simp only; omega))
    exact OW.out
  · repeat (refine Below.setCell ?_ (by simp only; omega) _)
    exact b2.out
end Go.Proofs.Ytlgodbjbllpipaa
