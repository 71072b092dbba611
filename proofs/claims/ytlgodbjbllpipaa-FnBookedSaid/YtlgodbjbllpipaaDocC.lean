/- Documents: the plain words of a balance, and the walks of BalanceOf. -/
import Derived.Test.YtlgodbjbllpipaaDocB
import Derived.Test.YtlgodbjbllpipaaTextEq
namespace Go.Proofs.Ytlgodbjbllpipaa
open Go.ChangeShapes Go.WideShapes Go.ChangeAt Go.RowKit

theorem text_neB {a b : ByteArray} (h : ¬ a = b) : (a.toList == b.toList) = false := by simpa using text_ne h
def entHit (acc : ByteArray) (x : En) : Int := if x.acc = acc then x.amt else 0
def docPart (acc : ByteArray) (day : Int) (d : Doc) (j : Nat) : Int := if d.day ≤ day then sumF (entHit acc) d.ents j else 0
def docBal (acc : ByteArray) (day : Int) (d : Doc) : Int := docPart acc day d d.ents.length
def balTo (ds : List Doc) (acc : ByteArray) (day : Int) (k : Nat) : Int := sumF (docBal acc day) ds k
def balanceOf (ds : List Doc) (acc : ByteArray) (day : Int) : Int := if areDocs ds then balTo ds acc day ds.length else 0
theorem part_zero (acc : ByteArray) (day : Int) (d : Doc) : docPart acc day d 0 = 0 := by
  unfold docPart; split
  · exact sumF_zero _ _
  · rfl
theorem part_hit {acc : ByteArray} {day : Int} {d : Doc} {j : Nat} {x : En} (hx : d.ents[j]? = some x) (hd : d.day ≤ day) (h : x.acc = acc) : docPart acc day d (j + 1) = docPart acc day d j + x.amt := by
  unfold docPart; rw [if_pos hd, if_pos hd, sumF_succ _ hx, entHit, if_pos h]
theorem part_miss {acc : ByteArray} {day : Int} {d : Doc} {j : Nat} {x : En} (hx : d.ents[j]? = some x) (h : ¬ x.acc = acc) : docPart acc day d (j + 1) = docPart acc day d j := by
  unfold docPart; split
  · rw [sumF_succ _ hx, entHit, if_neg h]; omega
  · rfl
theorem part_late {acc : ByteArray} {day : Int} {d : Doc} (j : Nat) (hd : ¬ d.day ≤ day) : docPart acc day d j = 0 := by
  unfold docPart; rw [if_neg hd]
theorem sumF_bd {α : Type} {f : α → Int} {l : List α} {M : Int} (h : ∀ x ∈ l, -M ≤ f x ∧ f x ≤ M) (k : Nat) (hk : k ≤ l.length) : -(k * M) ≤ sumF f l k ∧ sumF f l k ≤ k * M := by
  induction k with
  | zero => simp [sumF_zero]
  | succ k ih =>
    have hx : l[k]? = some l[k] := List.getElem?_eq_getElem (by omega)
    rw [sumF_succ f hx]
    have := ih (by omega); have h1 := h l[k] (List.getElem_mem _)
    rw [Int.natCast_add, Int.add_mul]
    omega
theorem hit_bd {l : List En} (h : areEntries l = true) (acc : ByteArray) : ∀ x ∈ l, -1000000000 ≤ entHit acc x ∧ entHit acc x ≤ 1000000000 := by
  intro x hx
  have := enGood_amt ((areEntries_true h).1 x hx)
  unfold entHit; split <;> omega
theorem part_bd {d : Doc} (h : areEntries d.ents = true) (acc : ByteArray) (day : Int) (j : Nat) (hj : j ≤ d.ents.length) : -12000000000 ≤ docPart acc day d j ∧ docPart acc day d j ≤ 12000000000 := by
  unfold docPart; split
  · have b := sumF_bd (M := 1000000000) (hit_bd h acc) j hj
    have := (areEntries_true h).2.2.2
    omega
  · omega
theorem areDocs_ents {l : List Doc} (h : areDocs l = true) : ∀ d ∈ l, areEntries d.ents = true := by
  intro d hd
  obtain ⟨k, hk, rfl⟩ := List.getElem_of_mem hd
  have := (areDocs_true h).2 k _ (List.getElem?_eq_getElem hk)
  simp only [docGood, Bool.and_eq_true] at this
  exact this.2.2
theorem bal_bd {l : List Doc} (h : areDocs l = true) (acc : ByteArray) (day : Int) (k : Nat) (hk : k ≤ l.length) : -1440000000000 ≤ balTo l acc day k ∧ balTo l acc day k ≤ 1440000000000 := by
  have b := sumF_bd (f := docBal acc day) (l := l) (M := 12000000000) (fun d hd => part_bd (areDocs_ents h d hd) acc day _ (Nat.le_refl _)) k hk
  have := (areDocs_true h).1
  unfold balTo
  omega
theorem balance_no {l : List Doc} (h : areDocs l = false) (acc : ByteArray) (day : Int) : balanceOf l acc day = 0 := by simp [balanceOf, h]

set_option maxRecDepth 100000 in
set_option maxHeartbeats 4000000 in
theorem implBalance (A : Option Addr) (n c : Nat) (l : List Doc) (acc : ByteArray) (day : Int) (w : World) (hr : DocsR w A n l) (hn : n ≤ 1048600) (hok : docsSmall l) :
    Calls Try.prog 55 #[.slice A n c, .string acc, .int .i64 day] w fun e w' => e = .returned (.int .i64 (balanceOf l acc day)) ∧ Below w.heap.size w w' := by
  have hl := Lib.hid hr.len
  cases h : areDocs l
  · have B0 := Lib.hid (balance_no h acc day)
    go_enter Try.func55, Try.ntmps55
    go_wp2_with fail
    refine (implAreDocs _ _ _ l _ hr hn hok).mono ?_; rw [h]; rintro e w1 ⟨rfl, hb1⟩
    go_wp2_with fail
    go_ret
    exact ⟨ret_int (by rw [B0.out]), hb1⟩
  · have H := Lib.hid h
    have BD := Lib.hid (bal_bd h acc day)
    have ED := Lib.hid (areDocs_ents h)
    have n120 : n ≤ 120 := by rw [← hl.out]; exact (areDocs_true h).1
    clear h
    go_enter Try.func55, Try.ntmps55
    go_wp2_with fail
    refine (implAreDocs _ _ _ l _ hr hn hok).mono ?_; rw [H.out]; rintro e w1 ⟨rfl, hb1⟩
    have hr1 := hr.below hb1
    go_wp2_with fail
    go_loopw [7, 17] (fun t i wr => ∃ k : Nat, k ≤ n ∧ i = .int .i64 k ∧ t = .int .i64 (balTo l acc day k) ∧ Below w1.heap.size w1 wr) (fun _ i _ => n - (intOf i).toNat)
    case atStart => exact ⟨0, Nat.zero_le _, rfl, by rw [balTo, sumF_zero], Below.refl _ _⟩
    case round =>
      obtain ⟨k, hk, rfl, rfl, hb⟩ := hrel
      obtain ⟨wu, rfl⟩ : ∃ wu : World, wu = wr := ⟨_, rfl⟩
      by_cases hlt : k < n
      · obtain ⟨g, off, rfl, d, eA, en, ec, hx, h0, h1, h2, hre⟩ := (hr1.below hb).docAt hlt
        have he := ED.out d (List.mem_of_getElem? hx)
        have hel := Lib.hid (hre.flatLen enCell_len (by omega))
        have PB := Lib.hid (part_bd he acc day)
        have e12 : en ≤ 12 := by rw [← hel.out]; exact (areEntries_true he).2.2.2
        have bb := BD.out k (by rw [hl.out]; omega)
        have SS := Lib.hid (show balTo l acc day (k + 1) = balTo l acc day k + docPart acc day d d.ents.length from sumF_succ (docBal acc day) hx)
        clear hx he
        obtain ⟨num, dday, ents⟩ := d
        simp only at h0 h1 h2 hre hel
        have bA := hb.alloc hb.size (Obj.cells #[.int .i64 num, .int .i64 dday, .slice eA en ec] 64)
        have X := Lib.hid (blk_new1 wu (Obj.cells #[.int .i64 num, .int .i64 dday, .slice eA en ec] 64))
        have hre := hre.alloc (Obj.cells #[.int .i64 num, .int .i64 dday, .slice eA en ec] 64)
        have zz := hb.size
        go_wp2_with fail
        generalize hwo : wu.alloc (Obj.cells #[.int .i64 num, .int .i64 dday, .slice eA en ec] 64) = wo at *
        clear hwo
        go_loopw [7, 24] (fun t i wz => ∃ j : Nat, j ≤ en ∧ i = .int .i64 j ∧ t = .int .i64 (balTo l acc day k + docPart acc day ⟨num, dday, ents⟩ j) ∧ Below wo.heap.size wo wz) (fun _ i _ => en - (intOf i).toNat)
        case atStart => exact ⟨0, Nat.zero_le _, rfl, by rw [part_zero]; simp, Below.refl _ _⟩
        case round =>
          obtain ⟨j, hj, rfl, rfl, hz⟩ := hrel
          have pb := PB.out j (by rw [hel.out]; exact hj)
          have Y := Lib.hid (blk_keep hz X.out)
          have y1 := cell_alloc (blk_at Y.out (j := 1) rfl)
          by_cases hlt2 : j < en
          · obtain ⟨g2, off2, rfl, ⟨ac, amt⟩, hx2, c0, c1⟩ := (hre.below hz).enAt hlt2
            simp only at c0 c1
            have pb2 := PB.out (j + 1) (by rw [hel.out]; omega)
            by_cases hday : dday ≤ day
            · by_cases hac : ac = acc
              · subst hac
                have PH := Lib.hid (part_hit (d := ⟨num, dday, ents⟩) hx2 hday rfl)
                rw [PH.out] at pb2
                simp only at pb2 PH
                clear hx2
                go_wp2_with fail
                go_roundw
                case rel => exact ⟨j + 1, by omega, by go_num, by rw [PH.out]; go_num, hz.alloc hz.size _⟩
                case measure => simp [intOf]; omega
              · have PM := Lib.hid (part_miss (day := day) (d := ⟨num, dday, ents⟩) hx2 hac)
                have hne := text_neB hac
                clear hac hx2
                go_wp2_with fail
                go_roundw
                case rel => exact ⟨j + 1, by omega, by go_num, by rw [PM.out], hz.alloc hz.size _⟩
                case measure => simp [intOf]; omega
            · have PL := Lib.hid (fun j => part_late (acc := acc) (d := ⟨num, dday, ents⟩) j hday)
              clear hx2
              go_wp2_with fail
              go_roundw
              case rel => exact ⟨j + 1, by omega, by go_num, by rw [PL.out, PL.out], hz.alloc hz.size _⟩
              case measure => simp [intOf]; omega
          · obtain rfl : en = j := by omega
            go_wp2_with fail
            go_roundw
            case rel => exact ⟨k + 1, by omega, by go_num, by rw [SS.out, hel.out], below_app bA hz bA.size⟩
            case measure => simp [intOf]; omega
      · obtain rfl : n = k := by omega
        have BE := Lib.hid (show balanceOf l acc day = balTo l acc day n by rw [balanceOf, if_pos H.out, hl.out])
        go_wp2_with fail
        go_ret
        exact ⟨ret_int (by rw [BE.out]), below_app hb1 hb hb1.size⟩
set_option maxRecDepth 100000 in
set_option maxHeartbeats 4000000 in
theorem specBalance (A : Option Addr) (n c : Nat) (l : List Doc) (acc : ByteArray) (day : Int) (w : World) (hr : DocsR w A n l) (hn : n ≤ 1048600) (hok : docsSmall l) :
    Calls Try.prog 32 #[.slice A n c, .string acc, .int .i64 day] w fun e w' => e = .returned (.int .i64 (balanceOf l acc day)) ∧ Below w.heap.size w w' := by
  have hl := Lib.hid hr.len
  have OK := Lib.hid hok
  cases h : areDocs l
  · have B0 := Lib.hid (balance_no h acc day)
    have H := Lib.hid h
    clear h
    by_cases h0 : 0 < n
    · go_enter Try.func32, Try.ntmps32
      go_wp2_with fail
      refine wp_loop_once ?_
      go_wp2_with fail
      refine (specAreDocs _ _ _ l _ hr hn OK.out).mono ?_; rw [H.out]; rintro e w1 ⟨rfl, hb1⟩
      go_wp2_with fail
      go_ret
      exact ⟨ret_int (by rw [B0.out]), hb1⟩
    · go_enter Try.func32, Try.ntmps32
      go_wp2_with fail
      refine wp_loop_once ?_
      go_wp2_with fail
      go_ret
      exact ⟨ret_int (by rw [B0.out]), Below.refl _ _⟩
  · have H := Lib.hid h
    have BD := Lib.hid (bal_bd h acc day)
    have ED := Lib.hid (areDocs_ents h)
    have n120 : n ≤ 120 := by rw [← hl.out]; exact (areDocs_true h).1
    clear h
    go_enter Try.func32, Try.ntmps32
    go_wp2_with fail
    go_loopw [7, 8] (fun t i wr => ∃ k : Nat, k ≤ n ∧ i = .int .i64 k ∧ t = .int .i64 (balTo l acc day k) ∧ Below w.heap.size w wr) (fun _ i _ => n - (intOf i).toNat)
    case atStart => exact ⟨0, Nat.zero_le _, rfl, by rw [balTo, sumF_zero], Below.refl _ _⟩
    case round =>
      obtain ⟨k, hk, rfl, rfl, hb⟩ := hrel
      obtain ⟨wu, rfl⟩ : ∃ wu : World, wu = wr := ⟨_, rfl⟩
      by_cases hlt : k < n
      · go_wp2_with fail
        refine (specAreDocs _ _ _ l _ (hr.below hb) hn OK.out).mono ?_; rw [H.out]; rintro e wo ⟨rfl, hbo⟩
        have bo := below_app hb hbo hb.size
        obtain ⟨g, off, rfl, d, eA, en, ec, hx, h0, h1, h2, hre⟩ := (hr.below bo).docAt hlt
        have he := ED.out d (List.mem_of_getElem? hx)
        have hel := Lib.hid (hre.flatLen enCell_len (by omega))
        have PB := Lib.hid (part_bd he acc day)
        have e12 : en ≤ 12 := by rw [← hel.out]; exact (areEntries_true he).2.2.2
        have bb := BD.out k (by rw [hl.out]; omega)
        have SS := Lib.hid (show balTo l acc day (k + 1) = balTo l acc day k + docPart acc day d d.ents.length from sumF_succ (docBal acc day) hx)
        clear hx he
        obtain ⟨num, dday, ents⟩ := d
        simp only at h0 h1 h2 hre hel
        have i1 : (0 : Int) ≤ k := by omega
        have i2 : (k : Int) < n := by omega
        go_wp2_with fail
        by_cases hday : dday ≤ day
        · go_loopw [7, 9] (fun t i wz => ∃ j : Nat, j ≤ en ∧ i = .int .i64 j ∧ t = .int .i64 (balTo l acc day k + docPart acc day ⟨num, dday, ents⟩ j) ∧ wo = wz) (fun _ i _ => en - (intOf i).toNat)
          case atStart => exact ⟨0, Nat.zero_le _, rfl, by rw [part_zero]; simp, rfl⟩
          case round =>
            obtain ⟨j, hj, rfl, rfl, rfl⟩ := hrel
            have pb := PB.out j (by rw [hel.out]; exact hj)
            by_cases hlt2 : j < en
            · obtain ⟨g2, off2, rfl, ⟨ac, amt⟩, hx2, c0, c1⟩ := hre.enAt hlt2
              simp only at c0 c1
              have j1 : (0 : Int) ≤ j := by omega
              have j2 : (j : Int) < en := by omega
              have pb2 := PB.out (j + 1) (by rw [hel.out]; omega)
              by_cases hac : ac = acc
              · subst hac
                have PH := Lib.hid (part_hit (d := ⟨num, dday, ents⟩) hx2 hday rfl)
                rw [PH.out] at pb2
                simp only at pb2 PH
                clear hx2
                go_wp2_with fail
                go_roundw
                case rel => exact ⟨j + 1, by omega, by go_num, by rw [PH.out]; go_num, trivial⟩
                case measure => simp [intOf]; omega
              · have PM := Lib.hid (part_miss (day := day) (d := ⟨num, dday, ents⟩) hx2 hac)
                have hne := text_neB hac
                have hne2 := text_ne hac
                clear hac hx2
                go_wp2_with fail
                go_roundw
                case rel => exact ⟨j + 1, by omega, by go_num, by rw [PM.out], trivial⟩
                case measure => simp [intOf]; omega
            · obtain rfl : en = j := by omega
              go_wp2_with fail
              go_roundw
              case rel => exact ⟨k + 1, by omega, by go_num, by rw [SS.out, hel.out], bo⟩
              case measure => simp [intOf]; omega
        · have PL := Lib.hid (fun j => part_late (acc := acc) (d := ⟨num, dday, ents⟩) j hday)
          refine wp_loop_once ?_
          by_cases h0 : 0 < en
          · go_wp2_with fail
            go_roundw
            case rel => exact ⟨k + 1, by omega, by go_num, by rw [SS.out, PL.out]; simp, bo⟩
            case measure => simp [intOf]; omega
          · go_wp2_with fail
            go_roundw
            case rel => exact ⟨k + 1, by omega, by go_num, by rw [SS.out, PL.out]; simp, bo⟩
            case measure => simp [intOf]; omega
      · obtain rfl : n = k := by omega
        have BE := Lib.hid (show balanceOf l acc day = balTo l acc day n by rw [balanceOf, if_pos H.out, hl.out])
        go_wp2_with fail
        go_ret
        exact ⟨ret_int (by rw [BE.out]), hb⟩
end Go.Proofs.Ytlgodbjbllpipaa
