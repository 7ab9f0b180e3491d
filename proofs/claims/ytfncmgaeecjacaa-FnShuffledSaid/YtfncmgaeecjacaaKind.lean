/-
  Counts of ranks, rows of ranks and the kind of five cards, in the implementation. Conditions: those of each theorem.
-/
import Derived.Test.YtfncmgaeecjacaaLookP
import Derived.Deep.DeepCutAuto
import Derived.Laws.Rows
import Derived.Deep.WholeRow
namespace Go.Proofs.Ytfncmgaeecjacaa.hand
open Go.RowKit
open base mem

/-! ### a block that is known whole -/
def Blk (w : World) (g : Nat) (t : TypeId) (cs : Array Value) : Prop := w.heap[g]? = some (.cells cs t (0, 0))
section
variable {w w' : World} {g : Nat} {t : TypeId} {cs : Array Value}
theorem Blk.lt (h : Blk w g t cs) : g < w.heap.size := by
  rcases Nat.lt_or_ge g w.heap.size with hlt | hge
  · exact hlt
  · unfold Blk at h; rw [Array.getElem?_eq_none hge] at h; cases h
theorem Blk.cell (h : Blk w g t cs) (i : Nat) : w.cell? ⟨g, i, none⟩ = cs[i]? := cell_of_row w g i cs t (0, 0) h
theorem Blk.frozen (h : Blk w g t cs) (i : Nat) : w.frozen? ⟨g, i, none⟩ = false := frozen_of_row w g i cs t h
theorem Blk.new (w : World) (t : TypeId) (cs : Array Value) : Blk (w.alloc (.cells cs t)) w.heap.size t cs := heap_alloc_new w _
theorem Blk.drewN (h : Blk w g t cs) (n : Nat) : Blk (w.drewN n) g t cs := h
theorem Blk.alloc (h : Blk w g t cs) (o : Obj) : Blk (w.alloc o) g t cs := (Below.heap_alloc w o g h.lt).trans h
theorem Blk.put (h : Blk w g t cs) (i : Nat) (u : Value) : Blk (w.setCell ⟨g, i, none⟩ u) g t (cs.setIfInBounds i u) := heap_setCell_same w g i cs t u h
theorem Blk.far (h : Blk w g t cs) {p : Addr} (hp : g ≠ p.block) (u : Value) : Blk (w.setCell p u) g t cs := (heap_setCell_other w p g u hp).trans h
theorem Blk.below {B : Nat} (h : Blk w g t cs) (hb : Below B w w') (hg : g < B) : Blk w' g t cs := (hb.block g hg).trans h
theorem Blk.grown {row : Option Nat} (h : Blk w g t cs) (hb : w.grownBy w' row) (hg : some g ≠ row) : Blk w' g t cs := (hb.block g h.lt hg).trans h
end
/-- numbers as cells -/
def nvs (c : List Nat) : Array Value := (c.map fun (n : Nat) => Value.int .i64 (n : Int)).toArray
theorem nvs_size (c : List Nat) : (nvs c).size = c.length := by simp [nvs]
theorem nvs_at (c : List Nat) (i : Nat) (h : i < c.length) : (nvs c)[i]? = some (.int .i64 ((c.getD i 0 : Nat) : Int)) := by
  simp [nvs, h, List.getD]
theorem nvs_set (c : List Nat) (i n : Nat) (v : Value) (hv : v = .int .i64 (n : Int)) : (nvs c).setIfInBounds i v = nvs (c.set i n) := by
  subst hv
  simp [nvs, List.map_set]
theorem cnt_step {xs : List Int} {k n : Nat} (h : xs.length = n) (hk : k < n) {x : Nat} (hx : xs.getD k 0 = (x : Int)) :
    cntN (xs.take (k + 1)) = (cntN (xs.take k)).set (x % 13) ((cntN (xs.take k)).getD (x % 13) 0 + 1) := by
  have hkx : k < xs.length := by omega
  have e : xs[k] = (x : Int) := by rw [← hx]; simp [List.getD, hkx]
  rw [List.take_succ_eq_append_getElem hkx, e]
  exact cntN_snoc _ _ _ (by omega) (Nat.mod_lt _ (by decide))
theorem cnt_le (xs : List Int) (k r : Nat) : (cntN (xs.take k)).getD r 0 ≤ k := by
  rw [cntN_at]
  split
  · exact Nat.le_trans List.countP_le_length (by rw [List.length_take]; omega)
  · omega
theorem store_row {w : World} {g : Nat} {t : TypeId} {cur cs : Array Value} (h : Blk w g t cur) (hs : cur.size = cs.size) (h1 : ∀ v ∈ cs.toList, v.oneCell' = true) :
    (storeCells ⟨g, 0, none⟩ cs.toList).run Try.prog w = .ok () (w.setRow g cs) ∧ Blk (w.setRow g cs) g t cs ∧ (∀ B W, Below B W w → B ≤ g → Below B W (w.setRow g cs)) := by
  have h0 := run_storeCells_from (P := Try.prog) g t cs.toList 0 cur w h (by simp [hs]) h1
  simp only [List.take_zero, List.nil_append, Array.toArray_toList] at h0
  exact ⟨h0, setRow_heap w g cur cs t (0, 0) h, fun B W hb hB => hb.trans ⟨rfl, rfl, rfl, by simp [World.setRow], fun k hk => setRow_other w g k cs (by omega)⟩⟩
theorem nvs_one (c : List Nat) : ∀ v ∈ (nvs c).toList, v.oneCell' = true := by
  intro v hv
  simp only [nvs, List.mem_map] at hv
  obtain ⟨x, _, rfl⟩ := hv
  rfl
/-! ### five in a row -/
def onesB (c : List Nat) (a j : Nat) : Bool := (List.range j).all fun i => c.getD (a + i) 0 == 1
theorem ones_zero (c : List Nat) (a : Nat) : onesB c a 0 = true := rfl
theorem ones_step (c : List Nat) (a j : Nat) : onesB c a (j + 1) = (onesB c a j && c.getD (a + j) 0 == 1) := by
  unfold onesB
  rw [List.range_succ, List.all_append]
  simp
theorem ones_row (c : List Nat) (t : Nat) (h4 : 4 ≤ t) (h12 : t ≤ 12) : onesB c (t - 4) 5 = rowAt c t := by
  obtain rfl | rfl | rfl | rfl | rfl | rfl | rfl | rfl | rfl : t = 4 ∨ t = 5 ∨ t = 6 ∨ t = 7 ∨ t = 8 ∨ t = 9 ∨ t = 10 ∨ t = 11 ∨ t = 12 := by omega
  all_goals
    rw [Bool.eq_iff_iff]
    simp [onesB, rowAt, show List.range 5 = [0, 1, 2, 3, 4] from rfl]
    constructor <;> (rintro ⟨a, b, c, d, e⟩; exact ⟨e, d, c, b, a⟩)
theorem row_three (c : List Nat) : rowAt c 3 = (c.getD 12 0 == 1 && c.getD 0 0 == 1 && c.getD 1 0 == 1 && c.getD 2 0 == 1 && c.getD 3 0 == 1) := by
  rw [Bool.eq_iff_iff]
  simp [rowAt, show List.range 5 = [0, 1, 2, 3, 4] from rfl]
  constructor
  · rintro ⟨a, b, c, d, e⟩; exact ⟨⟨⟨⟨e, d⟩, c⟩, b⟩, a⟩
  · rintro ⟨⟨⟨⟨e, d⟩, c⟩, b⟩, a⟩; exact ⟨a, b, c, d, e⟩
theorem rowF_yes {c : List Nat} {t : Nat} (h3 : 3 ≤ t) (h : rowAt c t = true) : rowF c (t - 2) = (t : Int) := by
  obtain ⟨m, rfl⟩ : ∃ m, t = m + 3 := ⟨t - 3, by omega⟩
  show rowF c (m + 1) = _
  rw [rowF, if_pos h]
theorem rowF_no {c : List Nat} {t : Nat} (h3 : 3 ≤ t) (h : rowAt c t = false) : rowF c (t - 2) = rowF c (t - 1 - 2) := by
  obtain ⟨m, rfl⟩ : ∃ m, t = m + 3 := ⟨t - 3, by omega⟩
  show rowF c (m + 1) = rowF c m
  rw [rowF, if_neg (by rw [h]; decide)]

/-! ### one suit -/
theorem suit_no {xs : List Int} {k : Nat} (hk : k < xs.length) (h : xs.getD k 0 / 13 ≠ xs.getD 0 0 / 13) : suitB xs = false := by
  unfold suitB
  rw [List.all_eq_false]
  refine ⟨xs[k], List.getElem_mem hk, ?_⟩
  have e : xs.getD k 0 = xs[k] := by simp [List.getD, hk]
  rw [e] at h
  simpa using h
theorem suit_yes {xs : List Int} (h : ∀ k, k < xs.length → xs.getD k 0 / 13 = xs.getD 0 0 / 13) : suitB xs = true := by
  unfold suitB
  rw [List.all_eq_true]
  intro x hx
  obtain ⟨k, hk, rfl⟩ := List.mem_iff_getElem.1 hx
  have e : xs.getD k 0 = xs[k] := by simp [List.getD, hk]
  have := h k hk
  rw [e] at this
  simpa using this
/-- what an index tells: whether all are of one suit -/
def suitIx (xs : List Int) (i : Int) : Prop := (suitB xs = true ∧ i = -1) ∨ (suitB xs = false ∧ 0 ≤ i ∧ i < 9223372036854775808)
/-! ### the kind -/
/-- how many of the first k counts are v, for each v -/
def mnyT (c : List Nat) (k : Nat) : List Nat := (List.range 6).map fun v => (c.take k).countP (· == v)
theorem mnyT_len (c : List Nat) (k : Nat) : (mnyT c k).length = 6 := by simp [mnyT]
theorem mnyT_at (c : List Nat) (k v : Nat) (hv : v < 6) : (mnyT c k).getD v 0 = (c.take k).countP (· == v) := by
  unfold mnyT
  simp [List.getD, hv]
theorem mnyT_le (c : List Nat) (k v : Nat) (hv : v < 6) : (mnyT c k).getD v 0 ≤ k := by
  rw [mnyT_at c k v hv]
  exact Nat.le_trans List.countP_le_length (by rw [List.length_take]; omega)
theorem mnyT_step (c : List Nat) (k : Nat) (hk : k < c.length) (hv : c.getD k 0 < 6) : mnyT c (k + 1) = (mnyT c k).set (c.getD k 0) ((mnyT c k).getD (c.getD k 0) 0 + 1) := by
  have e : c.getD k 0 = c[k] := by simp [List.getD, hk]
  rw [mnyT_at _ _ _ hv]
  apply List.ext_getElem
  · simp [mnyT]
  · intro i h1 h2
    rw [List.getElem_set]
    simp only [mnyT, List.getElem_map, List.getElem_range, List.take_succ_eq_append_getElem hk, List.countP_append, List.countP_cons, List.countP_nil, e]
    by_cases h : c[k] = i
    · simp [h]
    · simp [h]
theorem mnyT_all (c : List Nat) (h : c.length = 13) (v : Nat) (hv : v < 6) : (mnyT c 13).getD v 0 = manyI c v := by
  rw [mnyT_at c 13 v hv, List.take_of_length_le (by omega)]
  rfl
end Go.Proofs.Ytfncmgaeecjacaa.hand
