/-
  slices.Delete at []int64: its laying, written out by hand. Conditions: none.
-/
import Derived.Test.YtfncmgaeecjacaaIsDeck
import Derived.Shelf.SlicesE.Delete
namespace Go.Proofs.Ytfncmgaeecjacaa.deck
open Go.RowKit Go.Shelf
open base mem

def delRen : Ren := ⟨fun _ => 83, fun n => if n = 0 then 0 else if n = 3 then 3 else if n = 4 then 4 else if n = 22 then 22 else 2, fun n => n⟩
theorem delLay : SlLaysE.n45 Try.prog delRen where
  mixed := by kernel_rfl
  f45 := ⟨"slices.Delete[[]int64,int64]", by decide, Try.func83.trans (congrArg some (by kernel_rfl))⟩
  t0 := Try.underlying0
  a0 := Try.isAgg0
  z0 := Try.sizeOf0
  v0 := Try.zeroValue0
  t3 := Try.underlying3
  a3 := Try.isAgg3
  z3 := Try.sizeOf3
  v3 := Try.zeroValue3
  t4 := Try.underlying4
  a4 := Try.isAgg4
  z4 := Try.sizeOf4
  v4 := Try.zeroValue4
  t22 := Try.underlying22
  a22 := Try.isAgg22
  z22 := Try.sizeOf22
  v22 := Try.zeroValue22
  a23 := Try.isAgg2
  z23 := Try.sizeOf2

/-- a row of the call's own, rewritten in place and perhaps cut -/
theorem own_put {w : World} {B g n c : Nat} {xs : List Int} (h : Own w B (some ⟨g, 0, none⟩) n c xs) (ys : List Int) (m : Nat) (hm : m ≤ n) (hy : ys.length = n) (q : Nat) :
    Own (Sort.putRow (Value.int .i64) (Sort.ahead w q) g 0 ys.toArray) B (some ⟨g, 0, none⟩) m c (ys.take m) ∧ w.grownBy (Sort.putRow (Value.int .i64) (Sort.ahead w q) g 0 ys.toArray) (some g) := by
  unfold Own World.ownsRow at h
  obtain ⟨h1, h2⟩ := h
  rcases h2 with ⟨h2, _⟩ | ⟨g', cap, cur, hv, hb, hg, hnc, hcm, hcs, hct⟩
  · cases h2
  injection hv with e1 e2 e3
  injection e1 with e1
  injection e1 with e1
  subst e1 e3
  have hgw : (Sort.ahead w q).heap[g]? = some (.cells cur 2 (0, 0)) := hg
  have hgn : (Sort.putRow (Value.int .i64) (Sort.ahead w q) g 0 ys.toArray).heap[g]? = some (.cells (Sort.putCells (Value.int .i64) 0 ys.toArray cur) 2 (0, 0)) := by
    unfold Sort.putRow Sort.mapBlock
    simp only [Array.getElem?_modify, if_true, hgw, Option.map_some, Sort.onCells]
  refine ⟨⟨by simp [ivs]; omega, .inr ⟨g, c, _, rfl, hb, hgn, by omega, hcm, ?_, ?_⟩⟩, ?_⟩
  · rw [← hcs]; simp [Sort.putCells]
  · apply List.ext_getElem?
    intro k
    simp only [Nat.mul_one, ivs, List.getElem?_take, List.getElem?_map, Array.getElem?_toList, Sort.putCells, Array.getElem?_mapIdx]
    by_cases hk : k < m
    · have hk2 : k < cur.size := by omega
      have hk3 : k < ys.length := by omega
      simp [hk, hk2, hk3]
    · simp [hk]
  · refine ⟨rfl, rfl, rfl, by simp [Sort.putRow, Sort.mapBlock, Sort.ahead], fun k hk hk2 => ?_⟩
    have hne : g ≠ k := fun e => hk2 (by rw [e])
    simp [Sort.putRow, Sort.mapBlock, Sort.ahead, Array.getElem?_modify, hne]

theorem own_holds {w : World} {B g n c : Nat} {xs : List Int} (h : Own w B (some ⟨g, 0, none⟩) n c xs) : Sort.Holds (Value.int .i64) w g 0 xs.toArray := by
  intro j hj
  have hl := h.len
  have hj2 : j < xs.length := by simpa using hj
  have h1 := World.ownsRow.cellAt (h := h) j (by omega)
  rw [ivs_at _ _ hj2] at h1
  refine ⟨?_, ?_⟩
  · rw [Nat.zero_add, h1]
    simp [hj2]
  · rw [Nat.zero_add]; exact World.ownsRow.frozenAt (h := h) j

theorem info_del : (Try.prog.info? 2).map (fun i => i.size) = some 1 := by kernel_rfl

/-- one element taken out of a row of the call's own -/
theorem Delete_one (A : Option Addr) (n c i : Nat) (xs : List Int) (B : Nat) (w : World) (h : Own w B A n c xs) (hi : i < n) (hc : c ≤ 9223372036854775807) :
    Calls Try.prog 83 #[.slice A n c, .int .i64 i, .int .i64 ((i + 1 : Nat) : Int)] w fun e w' => e = .returned (.slice A (n - 1) c) ∧ Own w' B A (n - 1) c (xs.take i ++ xs.drop (i + 1)) ∧ w.grownBy w' (Value.slice A n c).ownBlock := by
  obtain ⟨g, rfl, hBg, hgs⟩ := h.form (by omega)
  have hl := h.len
  obtain ⟨i0, hi0, hz⟩ : ∃ i0, Try.prog.info? 2 = some i0 ∧ i0.size = 1 := by
    have := info_del
    cases hh : Try.prog.info? 2 with
    | none => rw [hh] at this; cases this
    | some i0 => rw [hh] at this; exact ⟨i0, rfl, by simpa using this⟩
  have hcap : n ≤ c := by
    rcases h.2 with ⟨h0, _⟩ | ⟨g', cap, cur, hv, _, _, hnc, _⟩
    · cases h0
    · injection hv with _ _ e3; omega
  have H := AnyE.slices_Delete delLay (Value.int .i64) (fun _ => rfl) 0 Try.zeroValue2 i0 hi0 hz g 0 c i (i + 1) xs.toArray w (own_holds h) (by simpa [hl] using hcap) hc (by omega) (by simp; omega)
  have hs : xs.toArray.size = n := by simp [hl]
  rw [hs] at H
  refine H.mono ?_
  rintro e w' ⟨rfl, q, rfl⟩
  rw [show i + 1 - i = 1 by omega]
  have hp := own_put h (xs.toArray.toList.take i ++ xs.toArray.toList.drop (i + 1) ++ List.replicate 1 0) (n - 1) (by omega) (by simp; omega) q
  refine ⟨rfl, ?_, hp.2⟩
  have := hp.1
  rwa [List.take_left' (by simp; omega)] at this
end Go.Proofs.Ytfncmgaeecjacaa.deck
