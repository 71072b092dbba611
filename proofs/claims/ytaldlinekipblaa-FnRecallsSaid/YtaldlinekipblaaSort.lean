/- slices.Sort at a slice of texts that the call owns; sorted texts. No condition. -/
import Derived.Test.YtaldlinekipblaaSortLay
import Derived.Test.YtaldlinekipblaaLess
import Derived.Test.YtaldlinekipblaaMore
import Derived.Sort.OwnSorted
import Derived.Lib.OwnBridge
namespace Go.Proofs.Ytaldlinekipblaa
open Go.ChangeShapes Go.WideShapes Go.ChangeAt Go.RowKit

def sortT (l : List ByteArray) : List ByteArray := ((l.map (·.data.toList)).mergeSort leB).map fun b => ⟨b.toArray⟩
theorem sortT_cells (l : List ByteArray) : (sortT l).map Value.string = ((l.map (·.data.toList)).mergeSort leB).map encStr := by
  unfold sortT; rw [List.map_map]; rfl
theorem sortT_perm (l : List ByteArray) : (sortT l).Perm l := by
  unfold sortT
  have h := (List.mergeSort_perm (l.map (·.data.toList)) leB).map fun b : List UInt8 => (⟨b.toArray⟩ : ByteArray)
  rw [List.map_map] at h
  have e : l.map ((fun b : List UInt8 => (⟨b.toArray⟩ : ByteArray)) ∘ fun s : ByteArray => s.data.toList) = l := by
    conv => rhs; rw [← List.map_id l]
    exact List.map_congr_left fun x _ => rfl
  rwa [e] at h
theorem sortT_len (l : List ByteArray) : (sortT l).length = l.length := (sortT_perm l).length_eq
theorem sortT_mem {l : List ByteArray} {s : ByteArray} : s ∈ sortT l ↔ s ∈ l := (sortT_perm l).mem_iff
theorem nodup_map {α β : Type} {f : α → β} (hf : ∀ a b, f a = f b → a = b) : ∀ {l : List α}, l.Nodup → (l.map f).Nodup
  | [], _ => by simp
  | x :: l, h => by
    obtain ⟨h1, h2⟩ := List.nodup_cons.1 h
    rw [List.map_cons, List.nodup_cons]
    refine ⟨fun hm => ?_, nodup_map hf h2⟩
    obtain ⟨y, hy, e⟩ := List.mem_map.1 hm
    exact h1 (hf _ _ e ▸ hy)
theorem sortT_rising {l : List ByteArray} (h : l.Nodup) : Rising id (sortT l) := by
  have h1 : (l.map (·.data.toList)).Nodup := nodup_map (fun a b e => text_inj (by rw [ByteArray.toList_eq, ByteArray.toList_eq]; exact e)) h
  have h2 := sort_rising h1
  unfold sortT Rising
  rw [List.pairwise_map]
  refine h2.imp fun {a b} hab => ?_
  simp only [id, txtLess, ByteArray.toList_eq]
  exact hab
set_option maxRecDepth 100000 in
theorem sort_own {base n c : Nat} {A : Option Addr} {l : List ByteArray} {w : World} (ho : w.ownsRow base 9 1 (.slice A n c) n (l.map Value.string)) (hn : n ≤ 1048600) :
    Calls Try.prog (sortRen.f 190) #[.slice A n c] w fun e w' => e = .returned (.tuple #[]) ∧ w'.ownsRow base 9 1 (.slice A n c) n ((sortT l).map Value.string) ∧ w.grownBy w' (Value.slice A n c).ownBlock := by
  have hl : l.length = n := by have := ho.1; simpa using this
  rcases Nat.eq_zero_or_pos n with h0 | h0
  · subst h0
    obtain rfl : l = [] := List.eq_nil_of_length_eq_zero hl
    refine (Go.Proofs.Any.slices_Sort_string_none sortLays A c w).mono ?_
    rintro e w' ⟨rfl, rfl⟩
    refine ⟨rfl, ?_, World.grownBy.refl _ _⟩
    rw [sortT_cells]; simpa using ho
  · obtain ⟨A', c', e, hc, hcm⟩ := own_slice ho
    rw [← Lib.map_encStr] at ho
    have hnn : (Value.slice A n c) ≠ .slice none 0 0 := fun e => by injection e with _ e2 _; omega
    obtain ⟨g, cap, hv, hb, hg, _, _, hlen, hH⟩ := Lib.holds_of_ownsRow ho hnn
    obtain ⟨rfl, rfl⟩ : A = some ⟨g, 0, none⟩ ∧ c = cap := by injection hv with h1 h2 h3; exact ⟨h1, h3⟩
    rcases ho.2 with ⟨hn0, _⟩ | ⟨g', cap', cur, hv', hbase, hbk, h1, h2, h3, h4⟩
    · cases hn0
    obtain ⟨rfl, rfl⟩ : g = g' ∧ c = cap' := by injection hv' with q1 q2 q3; injection q1 with q1; injection q1 with q1; exact ⟨q1, q3⟩
    have hc := Go.Proofs.Any.slices_Sort_string sortLays g 0 c (l.map (·.data.toList)) w hH hg (by simp; omega)
    have hlm : (l.map (·.data.toList)).length = n := by simp [hl]
    rw [hlm] at hc
    refine hc.mono ?_
    rintro e w' ⟨rfl, q, os, rfl⟩
    refine ⟨rfl, ?_, grownBy_sorted _⟩
    have hts : ((l.map (·.data.toList)).mergeSort leB).length = (l.map (·.data.toList)).length := List.length_mergeSort _
    have := ownsRow_sorted (n := q) (os := os) (ts := (l.map (·.data.toList)).mergeSort leB) (ss := l.map (·.data.toList)) hts hbase hbk (by rw [hlm]; exact h1) h2 h3
    rw [hlm] at this
    rw [sortT_cells]
    exact this
end Go.Proofs.Ytaldlinekipblaa
