/- The walks of the drawing of documents. No condition. -/
import Derived.Test.YtefhgilnfdmnlaaDrawEnt
import Derived.Test.YtefhgilnfdmnlaaPost
import Derived.Test.YtefhgilnfdmnlaaDocC
import Derived.Deep.RegionHeld3
import Derived.RegionTactic
import Derived.ChangeAlike
namespace Go.Proofs.Ytefhgilnfdmnlaa
open Go.ChangeShapes Go.WideShapes Go.ChangeAt Go.RowKit

section
variable {w w' : World} {lo hi : Nat} {A : Option Addr} {n c : Nat} {ds : List Doc} {rest : List Row}
/-- One document: its cells, and what a store into one of them leaves. -/
theorem DocsO.field {k : Nat} (h : DocsO w lo hi (.slice A n c) n ds rest) (hk : k < n) :
    ∃ g, A = some ⟨g, 0, none⟩ ∧ lo ≤ g ∧ g < w.heap.size ∧ (∀ j, w.frozen? ⟨g, j, none⟩ = false) ∧ ∃ (d : Doc) (eA : Option Addr) (ec : Nat), ds[k]? = some d ∧
      w.cell? ⟨g, k * 3, none⟩ = some (.int .i64 d.num) ∧ w.cell? ⟨g, k * 3 + 1, none⟩ = some (.int .i64 d.day) ∧ w.cell? ⟨g, k * 3 + 2, none⟩ = some (.slice eA d.ents.length ec) ∧
      (∀ a : Int, DocsO (w.setCell ⟨g, k * 3, none⟩ (.int .i64 a)) lo hi (.slice A n c) n (ds.set k { d with num := a }) rest) ∧
      (∀ a : Int, DocsO (w.setCell ⟨g, k * 3 + 1, none⟩ (.int .i64 a)) lo hi (.slice A n c) n (ds.set k { d with day := a }) rest) ∧
      w.ownsRow lo 47 2 (.slice eA d.ents.length ec) d.ents.length (d.ents.flatMap enCell) ∧
      ∀ (w2 : World) (es : List En), w.grownBy w2 (Value.slice eA d.ents.length ec).ownBlock → w2.ownsRow lo 47 2 (.slice eA d.ents.length ec) d.ents.length (es.flatMap enCell) →
          DocsO w2 lo hi (.slice A n c) n (ds.set k { d with ents := es }) rest := by
  have hl := h.len
  obtain ⟨vs, ⟨h1, h2⟩, h3⟩ := h
  have hd : ds[k]? = some ds[k] := List.getElem?_eq_getElem (by omega)
  have hx : vs[k]? = some vs[k] := List.getElem?_eq_getElem (by omega)
  have o0 : w.ownsRow lo 49 3 (.slice A n c) n (vs.flatMap dvCell) := h3.get (r := ⟨49, 3, .slice A n c, n, vs.flatMap dvCell⟩) (by simp [docRows])
  obtain ⟨g, rfl, hlo, hgs, hc, hf⟩ := own_addr o0 (by omega)
  obtain ⟨e1, e2⟩ := h2 k _ _ hx hd
  have hrk : (docRows (.slice (some ⟨g, 0, none⟩) n c) n vs ds ++ rest)[k + 1]? = some (entRow vs[k] ds[k]) := by
    rw [List.getElem?_append_left (by simp [docRows]; omega)]
    simp only [docRows, List.getElem?_cons_succ]
    exact zipWith_at hx hd
  have ok := h3.get (List.mem_of_getElem? hrk)
  have hen : ds[k].ents.length = vs[k].en := (RS.of_own (A := vs[k].eA) (c := vs[k].ec) ok : RS w 2 vs[k].eA vs[k].en (ds[k].ents.flatMap enCell)).flatLen enCell_len (by omega)
  have cc : ∀ j, j < 3 → w.cell? ⟨g, k * 3 + j, none⟩ = (dvCell vs[k])[j]? := fun j hj => by
    rw [hc (k * 3 + j) (by omega)]
    exact flat_get dvCell dvCell_len vs k _ hx j hj
  have fits : ∀ (x' : DV) (d' : Doc), x'.num = d'.num → x'.day = d'.day → DocFits (vs.set k x') (ds.set k d') := fun x' d' q1 q2 => ⟨by simp [h1], fun i x d hxi hdi => by
    by_cases hik : i = k
    · subst hik
      rw [List.getElem?_set] at hxi hdi
      simp at hxi hdi
      rw [← hxi.2, ← hdi.2]
      exact ⟨q1, q2⟩
    · rw [List.getElem?_set_ne (Ne.symm hik)] at hxi hdi
      exact h2 i x d hxi hdi⟩
  have same : ∀ (x' : DV) (d' : Doc), entRow x' d' = entRow vs[k] ds[k] → List.zipWith entRow (vs.set k x') (ds.set k d') = List.zipWith entRow vs ds := fun x' d' q => by
    rw [zipWith_set, q]; exact set_self (zipWith_at hx hd)
  refine ⟨g, rfl, hlo, hgs, hf, ds[k], vs[k].eA, vs[k].ec, hd, ?_, ?_, ?_, fun a => ?_, fun a => ?_, ?_, fun w2 es hg ho => ?_⟩
  · rw [← e1]; exact cc 0 (by omega)
  · rw [← e2]; exact cc 1 (by omega)
  · rw [hen]; exact cc 2 (by omega)
  · have s1 := o0.stored (k * 3) (.int .i64 a)
    have f1 := flat_set dvCell_len (l := vs) (k := k) (x := vs[k]) (x' := { vs[k] with num := a }) (j := 0) (u := .int .i64 a) (by omega) hx rfl
    rw [Nat.add_zero] at f1
    have t1 := h3.turnIn (i := 0) (r := ⟨49, 3, .slice (some ⟨g, 0, none⟩) n c, n, vs.flatMap dvCell⟩) rfl s1.2 s1.1 rfl
    refine ⟨vs.set k { vs[k] with num := a }, fits _ _ rfl e2, ?_⟩
    simp only [docRows, List.cons_append, List.set_cons_zero, f1] at t1 ⊢
    rw [same { vs[k] with num := a } { ds[k] with num := a } rfl]
    exact t1
  · have s1 := o0.stored (k * 3 + 1) (.int .i64 a)
    have f1 := flat_set dvCell_len (l := vs) (k := k) (x := vs[k]) (x' := { vs[k] with day := a }) (j := 1) (u := .int .i64 a) (by omega) hx rfl
    have t1 := h3.turnIn (i := 0) (r := ⟨49, 3, .slice (some ⟨g, 0, none⟩) n c, n, vs.flatMap dvCell⟩) rfl s1.2 s1.1 rfl
    refine ⟨vs.set k { vs[k] with day := a }, fits _ _ e1 rfl, ?_⟩
    simp only [docRows, List.cons_append, List.set_cons_zero, f1] at t1 ⊢
    rw [same { vs[k] with day := a } { ds[k] with day := a } rfl]
    exact t1
  · rw [hen]; exact ok
  · rw [hen] at hg ho
    have t1 := h3.turnIn hrk hg ho rfl
    refine ⟨vs.set k vs[k], fits _ _ e1 e2, ?_⟩
    have z := zipWith_set entRow vs ds k vs[k] { ds[k] with ents := es }
    rw [set_self hx] at z ⊢
    simp only [docRows, List.cons_append, List.set_cons_succ] at t1 ⊢
    rw [List.set_append_left _ _ (by simp; omega)] at t1
    rw [z]
    exact t1
theorem docs_grown {g : Nat} {v : Value} (h : DocsO w lo hi v n ds rest) (hg : w.grownBy w' (some g)) (hlt : g < lo) : DocsO w' lo hi v n ds rest :=
  h.within (Within.of_grown (lo := g) (hi := g + 1) hg (fun k hk => by injection hk with hk; omega)) (.inr (by omega))
end
/-- Documents drawn by cursor g: some, and not many. -/
def docsShort (ds : List Doc) : Prop := ∀ d ∈ ds, d.ents.length ≤ 12 ∧ ∀ x ∈ d.ents, x.acc.size ≤ 12
theorem short_small {ds : List Doc} (h : docsShort ds) : docsSmall ds := fun d hd => ⟨by have := (h d hd).1; omega, fun x hx => by have := (h d hd).2 x hx; omega⟩
theorem are_short {ds : List Doc} (h : areDocs ds = true) : docsShort ds := fun d hd => ⟨(areEntries_true (areDocs_ents h d hd)).2.2.2, fun x hx => by
  have := (isCode_len (enGood_amt ((areEntries_true (areDocs_ents h d hd)).1 x hx)).2.2.2).2; omega⟩
def DrawnDocs (g : Nat) (w : World) (e : Ending) (w' : World) : Prop :=
  ∃ (A : Option Addr) (n c : Nat) (ds : List Doc), e = .returned (.slice A n c) ∧ DocsO w' w.heap.size w'.heap.size (.slice A n c) n ds [] ∧ n ≤ 5 ∧ docsShort ds ∧ w.grownBy w' (some g) ∧ Cur w' g
set_option maxRecDepth 100000 in
set_option maxHeartbeats 4000000 in
theorem l35Documents_any (g : Nat) (w : World) (hc : Cur w g) :
    Calls Try.prog 57 #[.pointer (some ⟨g, 0, none⟩)] w (DrawnDocs g w) := by
  have hlt := hc.lt
  go_enter Try.func57, Try.ntmps57
  go_wp2_with fail
  refine (l1Below_any g _ _ (hc.below (below_box _ _)) (by omega)).mono ?_; rintro e w1 ⟨m0, rfl, hm0, -, hm1, hg1, hc1⟩
  have hm2 := hm1 (by omega)
  have D1 := (docs_grown (DocsO.empty (own_empty w w.heap.size 49 3 (Nat.le_refl _))) hg1 hlt).top
  have G1 := (World.grownBy_alloc w (Obj.cells #[] 49) (some g)).trans hg1
  clear hg1 hc hm1
  go_wp2_with fail
  go_loopw [3, 4] (fun v i wr => ∃ (m : Int) (A : Option Addr) (n c : Nat) (ds : List Doc), 0 ≤ m ∧ n + m ≤ 5 ∧ i = .int .i64 m ∧ v = .slice A n c ∧ DocsO wr w.heap.size wr.heap.size (.slice A n c) n ds [] ∧ Hid (areDocs ds = true) ∧ w.grownBy wr (some g) ∧ Cur wr g) (fun _ i _ => (intOf i).toNat)
  case atStart => exact ⟨m0, _, 0, _, [], hm0, by omega, rfl, rfl, D1, rfl, G1, hc1⟩
  case round =>
    obtain ⟨m, A, n, c, ds, hm, hnm, rfl, rfl, hd, hare, hg, hc⟩ := hrel
    clear D1 G1 hc1
    have hz := hg.size
    have hl := Lib.hid hd.len
    by_cases h0 : 0 < m
    · go_wp2_with fail
      refine (l1Below_any g _ _ hc (by omega)).mono ?_; rintro e w2 ⟨y, rfl, hy0, hy1, -, hg2, hc2⟩
      have d2 := docs_grown hd hg2 hlt
      go_wp2_with fail
      refine (l35Entries_any g _ hc2).mono ?_; rintro e w3 ⟨B, q, b, es, rfl, o3, hq, hes, hg3, hc3⟩
      have d3 := docs_grown d2 hg3 hlt
      have G3 := (hg.trans hg2).trans hg3
      clear hd d2 hg hg2 hg3 hc hc2
      go_wp2_with fail
      refine (specPost A n c ds y B q b es _ d3.read (by omega) (RS.of_own o3) (by omega) (short_small (are_short hare.out)) (fun x hx => by have := (hes x hx).1; omega)).mono ?_; rintro e w4 ⟨A4, c4, rfl, d4, hb4⟩
      have d3 := d3.below hb4
      have hc4 := hc3.below hb4
      have G4 := grown_below G3 hb4
      have z3 := G3.size
      have d4 := d4.mono z3 (Nat.le_refl _)
      clear o3 hb4 hc3 G3
      cases his : areDocs (withDoc ds y es)
      · go_wp2_with fail
        go_roundw
        case rel => exact ⟨m - 1, A, n, c, ds, by omega, by omega, by go_num, rfl, d3.top, hare, G4, hc4⟩
        case measure => simp [intOf]; omega
      · have e := postDocs_yes his
        have e2 : (withDoc ds y es).length = n + 1 := by rw [withDoc_len, hl.out]
        rw [e, e2] at d4
        rw [e, e2]
        have E := Lib.hid his
        clear his e e2
        go_wp2_with fail
        go_roundw
        case rel => exact ⟨m - 1, A4, n + 1, c4, _, by omega, by omega, by go_num, rfl, d4, E.out, G4, hc4⟩
        case measure => simp [intOf]; omega
    · obtain rfl : m = 0 := by omega
      have SH := Lib.hid (are_short hare.out)
      by_cases hn0 : n = 0
      · subst hn0
        go_wp2_with fail
        go_ret
        exact ⟨A, 0, c, ds, rfl, hd.top, by omega, SH.out, hg, hc⟩
      · have hn1 : 0 < n := by omega
        go_wp2_with fail
        refine (l1Once_any g _ _ hc (by omega)).mono ?_; rintro e w2 ⟨b2, rfl, hg2, hc2⟩
        have d2 := docs_grown hd hg2 hlt
        have G2 := hg.trans hg2
        clear hd hg hc hg2
        cases b2
        · go_wp2_with fail
          go_ret
          exact ⟨A, n, c, ds, rfl, d2.top, by omega, SH.out, G2, hc2⟩
        · go_wp2_with fail
          refine (l1Below_any g _ _ hc2 (by omega)).mono ?_; rintro e w3 ⟨x, rfl, hx0, -, hx1, hg3, hc3⟩
          have hx2 := hx1 (by omega)
          have d3 := docs_grown d2 hg3 hlt
          have G3 := G2.trans hg3
          obtain ⟨j, rfl⟩ := Int.eq_ofNat_of_zero_le hx0
          have hjn : j < n := by omega
          clear d2 G2 hc2 hg3 hx1
          go_wp2_with fail
          refine (l1Below_any g _ _ hc3 (by omega)).mono ?_; rintro e w4 ⟨x, rfl, hx0, -, hx1, hg4, hc4⟩
          have hx2 := hx1 (by omega)
          have d4 := docs_grown d3 hg4 hlt
          have G4 := G3.trans hg4
          clear d3 G3 hc3 hg4 hx1
          have hx3 : x = 0 ∨ x = 1 ∨ x = 2 := by omega
          have i1 : (0 : Int) ≤ j := by omega
          have i2 : (j : Int) < n := by omega
          rcases hx3 with rfl | rfl | rfl
          · obtain ⟨ga, rfl, hga, hgs, hf, d, eA, ec, hdx, c0, c1, c2, S0, S1, oe, SE⟩ := d4.field hjn
            have S := S0 (wrap64 (d.num + 1))
            have G5 := grown_own G4 (grown_set w4 ⟨ga, j * 3, none⟩ (.int .i64 (wrap64 (d.num + 1)))) (fun q hq => by injection hq with hq; simp only at hq; omega)
            have C5 := cur_grown hc4 (grown_set w4 ⟨ga, j * 3, none⟩ (.int .i64 (wrap64 (d.num + 1)))) (fun q hq => by injection hq with hq; simp only at hq; omega)
            have hfj := hf (j * 3)
            have SHd := SH.out d (List.mem_of_getElem? hdx)
            have SH2 := Lib.hid (set_mem (P := fun d : Doc => d.ents.length ≤ 12 ∧ ∀ x ∈ d.ents, x.acc.size ≤ 12) (j := j) SH.out (show ({ d with num := wrap64 (d.num + 1) } : Doc).ents.length ≤ 12 ∧ ∀ x ∈ ({ d with num := wrap64 (d.num + 1) } : Doc).ents, x.acc.size ≤ 12 from SHd))
            clear hf hdx S0 S1 oe SE
            go_wp2_with fail
            go_ret
            exact ⟨_, n, c, _, rfl, S.top, by omega, SH2.out, G5, C5⟩
          · go_wp2_with fail
            refine (l4Day_any g _ hc4).mono ?_; rintro e w5 ⟨y, rfl, hy, hg5, hc5⟩
            have d5 := docs_grown d4 hg5 hlt
            have G5 := G4.trans hg5
            clear d4 G4 hc4 hg5
            obtain ⟨ga, rfl, hga, hgs, hf, d, eA, ec, hdx, c0, c1, c2, S0, S1, oe, SE⟩ := d5.field hjn
            have S := S1 y
            have G6 := grown_own G5 (grown_set w5 ⟨ga, j * 3 + 1, none⟩ (.int .i64 y)) (fun q hq => by injection hq with hq; simp only at hq; omega)
            have C6 := cur_grown hc5 (grown_set w5 ⟨ga, j * 3 + 1, none⟩ (.int .i64 y)) (fun q hq => by injection hq with hq; simp only at hq; omega)
            have hfj := hf (j * 3 + 1)
            have SHd := SH.out d (List.mem_of_getElem? hdx)
            have SH2 := Lib.hid (set_mem (P := fun d : Doc => d.ents.length ≤ 12 ∧ ∀ x ∈ d.ents, x.acc.size ≤ 12) (j := j) SH.out (show ({ d with day := y } : Doc).ents.length ≤ 12 ∧ ∀ x ∈ ({ d with day := y } : Doc).ents, x.acc.size ≤ 12 from SHd))
            clear hf hdx S0 S1 oe SE
            go_wp2_with fail
            go_ret
            exact ⟨_, n, c, _, rfl, S.top, by omega, SH2.out, G6, C6⟩
          · obtain ⟨ga, rfl, hga, hgs, hf, d, eA, ec, hdx, c0, c1, c2, S0, S1, oe, SE⟩ := d4.field hjn
            have SHd := SH.out d (List.mem_of_getElem? hdx)
            have e2 := (areEntries_true (areDocs_ents hare.out d (List.mem_of_getElem? hdx))).2.2.1
            obtain ⟨q, hq⟩ : ∃ q, d.ents.length = q := ⟨_, rfl⟩
            rw [hq] at c2 oe SE e2
            obtain ⟨gb, rfl, hgb, hgbs, hcs, hfs⟩ := own_addr oe (by omega)
            obtain ⟨x0, hx0⟩ : ∃ x0, d.ents[0]? = some x0 := ⟨_, List.getElem?_eq_getElem (by omega)⟩
            have hc1 := hcs 1 (by omega)
            have hc1' : w4.cell? ⟨gb, 1, none⟩ = some (.int .i64 x0.amt) := by
              rw [hc1]
              have e := flat_get enCell enCell_len d.ents 0 x0 hx0 1 (by omega)
              rw [Nat.zero_mul, Nat.zero_add] at e
              rw [e]; rfl
            have hf1 := hfs 1
            have SS := oe.stored 1 (.int .i64 (wrap64 (x0.amt + 1)))
            have HFS := flat_set enCell_len (l := d.ents) (k := 0) (x := x0) (x' := { x0 with amt := wrap64 (x0.amt + 1) }) (j := 1) (u := .int .i64 (wrap64 (x0.amt + 1))) (by omega) hx0 rfl
            rw [Nat.zero_mul, Nat.zero_add] at HFS
            rw [HFS] at SS
            have S := SE _ _ SS.2 SS.1
            have SHe := Lib.hid (set_mem (P := fun x : En => x.acc.size ≤ 12) (j := 0) SHd.2 (show ({ x0 with amt := wrap64 (x0.amt + 1) } : En).acc.size ≤ 12 from SHd.2 x0 (List.mem_of_getElem? hx0)))
            have SH2 := Lib.hid (set_mem (P := fun d : Doc => d.ents.length ≤ 12 ∧ ∀ x ∈ d.ents, x.acc.size ≤ 12) (j := j) SH.out (show ({ d with ents := d.ents.set 0 { x0 with amt := wrap64 (x0.amt + 1) } } : Doc).ents.length ≤ 12 ∧ ∀ x ∈ ({ d with ents := d.ents.set 0 { x0 with amt := wrap64 (x0.amt + 1) } } : Doc).ents, x.acc.size ≤ 12 from ⟨by simp only [List.length_set]; exact SHd.1, SHe.out⟩))
            have G5 := grown_own G4 SS.2 (fun r hr => by injection hr with hr; omega)
            have C5 := cur_grown hc4 SS.2 (fun r hr => by injection hr with hr; omega)
            clear hf hdx S0 S1 oe SE hcs hfs hc1 hx0 SHd
            go_wp2_with fail
            go_region
            go_wp2_with fail
            go_ret
            exact ⟨_, n, c, _, rfl, (S.below ((Below.refl _ _).drew)).top, by omega, SH2.out, grown_below G5 ((Below.refl _ _).drew), C5.below ((Below.refl _ _).drew)⟩
theorem DrawPostEntries_any (A : Option Addr) (n c : Nat) (bs : List Int) (w : World) (hr : RS w 1 A n (byteCells bs)) (hbs : ∀ b ∈ bs, 0 ≤ b ∧ b < 256) (hn : n ≤ 1048580) :
    Calls Try.prog 31 #[.slice A n c] w fun e w' => ∃ (A1 : Option Addr) (n1 c1 : Nat) (ds : List Doc) (day : Int) (B : Option Addr) (m d : Nat) (es : List En), e = .returned (.tuple #[.slice A1 n1 c1, .int .i64 day, .slice B m d]) ∧ DocsR w' A1 n1 ds ∧ n1 ≤ 5 ∧ docsShort ds ∧ i64 day ∧ RS w' 2 B m (es.flatMap enCell) ∧ m ≤ 4 ∧ (∀ x ∈ es, enShort x) ∧ Below w.heap.size w w' := by
  go_enter Try.func31, Try.ntmps31
  go_wp2_with fail
  refine (l1New_any _ _ _ _ _ hr hbs (by omega)).mono ?_; rintro e w1 ⟨g, rfl, hg1, hb1, hc1⟩
  have hlt := hc1.lt
  go_wp2_with fail
  refine (l35Documents_any g _ hc1).mono ?_; rintro e w2 ⟨A2, n2, c2, ds, rfl, d2, hn2, hsh, hg2, hc2⟩
  go_wp2_with fail
  refine (l4Day_any g _ hc2).mono ?_; rintro e w3 ⟨day, rfl, hday, hg3, hc3⟩
  have d3 := docs_grown d2 hg3 hlt
  go_wp2_with fail
  refine (l35Entries_any g _ hc3).mono ?_; rintro e w4 ⟨B, m, d, es, rfl, o4, hm, hes, hg4, hc4⟩
  have d4 := docs_grown d3 hg4 hlt
  go_wp2_with fail
  go_ret3
  exact ⟨A2, n2, c2, ds, day, B, m, d, es, rfl, d4.read, hn2, hsh, hday, RS.of_own o4, hm, hes, below_grown hb1 ((hg2.trans hg3).trans hg4) hg1 hb1.size⟩
theorem DrawTrialBalance_any (A : Option Addr) (n c : Nat) (bs : List Int) (w : World) (hr : RS w 1 A n (byteCells bs)) (hbs : ∀ b ∈ bs, 0 ≤ b ∧ b < 256) (hn : n ≤ 1048580) :
    Calls Try.prog 40 #[.slice A n c] w fun e w' => ∃ (A1 : Option Addr) (n1 c1 : Nat) (ds : List Doc) (day : Int), e = .returned (.tuple #[.slice A1 n1 c1, .int .i64 day]) ∧ DocsR w' A1 n1 ds ∧ n1 ≤ 5 ∧ docsShort ds ∧ i64 day ∧ Below w.heap.size w w' := by
  go_enter Try.func40, Try.ntmps40
  go_wp2_with fail
  refine (l1New_any _ _ _ _ _ hr hbs (by omega)).mono ?_; rintro e w1 ⟨g, rfl, hg1, hb1, hc1⟩
  have hlt := hc1.lt
  go_wp2_with fail
  refine (l35Documents_any g _ hc1).mono ?_; rintro e w2 ⟨A2, n2, c2, ds, rfl, d2, hn2, hsh, hg2, hc2⟩
  go_wp2_with fail
  refine (l4Day_any g _ hc2).mono ?_; rintro e w3 ⟨day, rfl, hday, hg3, hc3⟩
  have d3 := docs_grown d2 hg3 hlt
  go_wp2_with fail
  go_ret2
  exact ⟨A2, n2, c2, ds, day, rfl, d3.read, hn2, hsh, hday, below_grown hb1 (hg2.trans hg3) hg1 hb1.size⟩
theorem DrawReverseNumber_any (A : Option Addr) (n c : Nat) (bs : List Int) (w : World) (hr : RS w 1 A n (byteCells bs)) (hbs : ∀ b ∈ bs, 0 ≤ b ∧ b < 256) (hn : n ≤ 1048580) :
    Calls Try.prog 43 #[.slice A n c] w fun e w' => ∃ (A1 : Option Addr) (n1 c1 : Nat) (ds : List Doc) (num day : Int), e = .returned (.tuple #[.slice A1 n1 c1, .int .i64 num, .int .i64 day]) ∧ DocsR w' A1 n1 ds ∧ n1 ≤ 5 ∧ docsShort ds ∧ 0 ≤ num ∧ num ≤ n1 + 1 ∧ i64 day ∧ Below w.heap.size w w' := by
  go_enter Try.func43, Try.ntmps43
  go_wp2_with fail
  refine (l1New_any _ _ _ _ _ hr hbs (by omega)).mono ?_; rintro e w1 ⟨g, rfl, hg1, hb1, hc1⟩
  have hlt := hc1.lt
  go_wp2_with fail
  refine (l35Documents_any g _ hc1).mono ?_; rintro e w2 ⟨A2, n2, c2, ds, rfl, d2, hn2, hsh, hg2, hc2⟩
  go_wp2_with fail
  refine (l1Below_any g _ _ hc2 (by omega)).mono ?_; rintro e w3 ⟨num, rfl, hx0, -, hx1, hg3, hc3⟩
  have hx2 := hx1 (by omega)
  have d3 := docs_grown d2 hg3 hlt
  go_wp2_with fail
  refine (l4Day_any g _ hc3).mono ?_; rintro e w4 ⟨day, rfl, hday, hg4, hc4⟩
  have d4 := docs_grown d3 hg4 hlt
  go_wp2_with fail
  go_ret3
  exact ⟨A2, n2, c2, ds, num, day, rfl, d4.read, hn2, hsh, hx0, by omega, hday, below_grown hb1 ((hg2.trans hg3).trans hg4) hg1 hb1.size⟩
end Go.Proofs.Ytefhgilnfdmnlaa
