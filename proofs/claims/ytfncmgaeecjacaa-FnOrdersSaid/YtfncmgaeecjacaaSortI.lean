/-
  slices.Sort at a list of numbers of the call's own. Conditions: those of each theorem.
-/
import Derived.Test.YtfncmgaeecjacaaSrt
import Derived.Test.YtfncmgaeecjacaaSortL
import Derived.Shelf.SortG.Plain
import Derived.Shelf.SortG.SortNone
namespace Go.Proofs.Ytfncmgaeecjacaa.deck
open Go.RowKit Go.Shelf
open base mem

theorem own_put2 {w : World} {B g n c : Nat} {xs : List Int} (h : Own w B (some ⟨g, 0, none⟩) n c xs) (ys : List Int) (hy : ys.length = n) (q : Nat) (os : Array Obj) :
    Own (Sort.grow (Sort.putRow (Value.int .i64) (Sort.ahead w q) g 0 ys.toArray) os) B (some ⟨g, 0, none⟩) n c ys ∧ w.grownBy (Sort.grow (Sort.putRow (Value.int .i64) (Sort.ahead w q) g 0 ys.toArray) os) (some g) := by
  unfold Own World.ownsRow at h
  obtain ⟨h1, h2⟩ := h
  rcases h2 with ⟨h2, _⟩ | ⟨g', cap, cur, hv, hb, hg, hnc, hcm, hcs, hct⟩
  · cases h2
  injection hv with e1 e2 e3
  injection e1 with e1
  injection e1 with e1
  subst e1 e3
  have hlt : g < w.heap.size := (Array.getElem?_eq_some_iff.1 hg).1
  have hgw : (Sort.ahead w q).heap[g]? = some (.cells cur 2 (0, 0)) := hg
  have hsz : (Sort.putRow (Value.int .i64) (Sort.ahead w q) g 0 ys.toArray).heap.size = w.heap.size := by simp [Sort.putRow, Sort.mapBlock, Sort.ahead]
  have hgn : (Sort.grow (Sort.putRow (Value.int .i64) (Sort.ahead w q) g 0 ys.toArray) os).heap[g]? = some (.cells (Sort.putCells (Value.int .i64) 0 ys.toArray cur) 2 (0, 0)) := by
    unfold Sort.grow
    simp only
    rw [Array.getElem?_append_left (by rw [hsz]; exact hlt)]
    unfold Sort.putRow Sort.mapBlock
    simp only [Array.getElem?_modify, if_true, hgw, Option.map_some, Sort.onCells]
  refine ⟨⟨by simp [ivs]; omega, .inr ⟨g, c, _, rfl, hb, hgn, hnc, hcm, ?_, ?_⟩⟩, ?_⟩
  · rw [← hcs]; simp [Sort.putCells]
  · apply List.ext_getElem?
    intro k
    simp only [Nat.mul_one, ivs, List.getElem?_take, List.getElem?_map, Array.getElem?_toList, Sort.putCells, Array.getElem?_mapIdx]
    by_cases hk : k < n
    · have hk2 : k < cur.size := by omega
      have hk3 : k < ys.length := by omega
      simp [hk, hk2, hk3]
    · have hk3 : ¬ k < ys.length := by omega
      simp [hk, hy]
  · refine ⟨rfl, rfl, rfl, by simp [hsz], fun k hk hk2 => ?_⟩
    have hne : g ≠ k := fun e => hk2 (by rw [e])
    unfold Sort.grow
    simp only
    rw [Array.getElem?_append_left (by rw [hsz]; exact hk)]
    simp [Sort.putRow, Sort.mapBlock, Sort.ahead, Array.getElem?_modify, hne]
theorem own_holds2 {w : World} {B g n c : Nat} {xs : List Int} (h : Own w B (some ⟨g, 0, none⟩) n c xs) : Sort.Holds (Value.int .i64) w g 0 xs.toArray := by
  intro j hj
  have hl := h.len
  have hj2 : j < xs.length := by simpa using hj
  have h1 := World.ownsRow.cellAt (h := h) j (by omega)
  rw [ivs_at _ _ hj2] at h1
  refine ⟨?_, ?_⟩
  · rw [Nat.zero_add, h1]
    simp [hj2]
  · rw [Nat.zero_add]; exact World.ownsRow.frozenAt (h := h) j
theorem Sort_any (A : Option Addr) (n c : Nat) (xs : List Int) (B : Nat) (w : World) (h : Own w B A n c xs) (hn : n ≤ 1048576) :
    Calls Try.prog 76 #[.slice A n c] w fun e w' => e = .returned (.tuple #[]) ∧ Own w' B A n c (srt xs) ∧ w.grownBy w' (Value.slice A n c).ownBlock := by
  have hl := h.len
  rcases Nat.eq_zero_or_pos n with h0 | h0
  · subst h0
    have hx : xs = [] := List.eq_nil_of_length_eq_zero hl
    subst hx
    refine (AnyG.slices_Sort_int_none sortL A c w).mono ?_
    rintro e w' ⟨rfl, rfl⟩
    exact ⟨rfl, by simpa [srt] using h, World.grownBy.refl _ _⟩
  · obtain ⟨g, rfl, hBg, hgs⟩ := h.form h0
    have H := AnyG.slices_Sort_int sortL g 0 c xs w (own_holds2 h) hgs (by omega)
    rw [hl] at H
    refine H.mono ?_
    rintro e w' ⟨rfl, q, os, rfl⟩
    have hp := own_put2 h (srt xs) (by rw [srt_len]; exact hl) q os
    exact ⟨rfl, hp.1, hp.2⟩
end Go.Proofs.Ytfncmgaeecjacaa.deck
