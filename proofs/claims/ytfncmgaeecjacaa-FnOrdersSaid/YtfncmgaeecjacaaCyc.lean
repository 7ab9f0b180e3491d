/-
  CyclesOf, SignOf and OrderOf: the plain functions, and the walk of the reference's cycles. Conditions: those of each theorem.
-/
import Derived.Test.YtfncmgaeecjacaaApp
import Derived.Test.YtfncmgaeecjacaaDeck
import Derived.Test.YtfncmgaeecjacaaSrt
namespace Go.Proofs.Ytfncmgaeecjacaa.deck
open Go.RowKit
open base mem

/-! ### no program in sight -/
def cycR (xs : List Int) : Nat → List Bool → Nat → Nat → List Bool × Nat
  | 0, S, _, l => (S, l)
  | f + 1, S, q, l => if S.getD q false then (S, l) else cycR xs f (S.set q true) (xs.getD q 0).toNat (l + 1)
theorem cycR_stop {xs : List Int} {f : Nat} {S : List Bool} {q l : Nat} (h : S.getD q false = true) : cycR xs f S q l = (S, l) := by
  cases f with
  | zero => rfl
  | succ f => rw [cycR, if_pos h]
theorem cycR_step {xs : List Int} {f : Nat} {S : List Bool} {q l : Nat} (h : S.getD q false = false) : cycR xs (f + 1) S q l = cycR xs f (S.set q true) (xs.getD q 0).toNat (l + 1) := by
  rw [cycR, h, if_neg (by simp)]
theorem count_mark {S : List Bool} {q : Nat} (hq : q < S.length) (h : S.getD q false = false) : (S.set q true).count false + 1 = S.count false := by
  have h1 : S[q] = false := by rw [← h]; simp [List.getD, hq]
  have h2 : 0 < S.count false := List.count_pos_iff.2 (by rw [← h1]; exact List.getElem_mem hq)
  rw [List.count_set hq, h1]
  simp
  omega
theorem cycR_len (xs : List Int) (f : Nat) (S : List Bool) (q l : Nat) : (cycR xs f S q l).1.length = S.length := by
  induction f generalizing S q l with
  | zero => rfl
  | succ f ih => rw [cycR]; split; rfl; rw [ih]; simp
theorem cycR_cnt (xs : List Int) (f : Nat) (S : List Bool) (q l : Nat) (hq : q < S.length) (hx : ∀ j, j < S.length → (xs.getD j 0).toNat < S.length) : (cycR xs f S q l).1.count false + (cycR xs f S q l).2 = S.count false + l := by
  induction f generalizing S q l with
  | zero => rfl
  | succ f ih =>
    cases h : S.getD q false
    · rw [cycR_step h, ih _ _ _ (by simp; exact hx q hq) (by simpa using hx)]
      have := count_mark hq h
      omega
    · rw [cycR_stop h]
def stC (xs : List Int) (n : Nat) : Nat → List Bool × List Int
  | 0 => (List.replicate n false, [])
  | i + 1 => ((cycR xs (n + 1) (stC xs n i).1 i 0).1, if (cycR xs (n + 1) (stC xs n i).1 i 0).2 = 0 then (stC xs n i).2 else (stC xs n i).2 ++ [((cycR xs (n + 1) (stC xs n i).1 i 0).2 : Int)])
theorem stC_len1 (xs : List Int) (n i : Nat) : (stC xs n i).1.length = n := by
  induction i with
  | zero => simp [stC]
  | succ i ih => rw [stC]; simp only; rw [cycR_len, ih]
theorem stC_len2 (xs : List Int) (n i : Nat) : (stC xs n i).2.length ≤ i := by
  induction i with
  | zero => simp [stC]
  | succ i ih =>
    rw [stC]; simp only
    split
    · omega
    · rw [List.length_append]; simp only [List.length_cons, List.length_nil]; omega
def cycL (xs : List Int) : List Int := srt (stC xs xs.length xs.length).2
/-- the new number on its way down to its place -/
def midL (ys : List Int) (k : Nat) (x : Int) : List Int := ys.take k ++ x :: ys.drop k
theorem midL_len (ys : List Int) (k : Nat) (x : Int) : (midL ys k x).length = ys.length + 1 := by
  simp [midL]; omega
theorem midL_end (ys : List Int) (x : Int) : midL ys ys.length x = ys ++ [x] := by simp [midL]
theorem midL_at (ys : List Int) (k : Nat) (x : Int) (hk : k ≤ ys.length) : (midL ys k x).getD k 0 = x := by
  simp [midL, List.getD, hk]
theorem midL_lo (ys : List Int) (k : Nat) (x : Int) {j : Nat} (hj : j < k) (hk : k ≤ ys.length) : (midL ys k x).getD j 0 = ys.getD j 0 := by
  have h1 : j < ys.length := by omega
  simp [midL, List.getD, List.getElem?_append, hk, hj, h1]
theorem midL_down (ys : List Int) (k : Nat) (x : Int) (hk : k < ys.length) : ((midL ys (k + 1) x).set (k + 1) (ys.getD k 0)).set k x = midL ys k x := by
  apply List.ext_getElem?
  intro i
  unfold midL
  rw [List.getElem?_set, List.getElem?_set]
  have e1 : (ys.take (k + 1)).length = k + 1 := by rw [List.length_take]; omega
  have e2 : (ys.take k).length = k := by rw [List.length_take]; omega
  simp only [List.length_set, List.length_append, List.length_cons, List.length_drop, e1]
  by_cases h1 : k = i
  · subst h1
    rw [if_pos rfl, if_pos (by omega), List.getElem?_append_right (by omega), e2]
    simp
  · rw [if_neg h1]
    by_cases h2 : k + 1 = i
    · subst h2
      rw [if_pos rfl, if_pos (by omega), List.getElem?_append_right (by omega), e2]
      simp [List.getD, hk]
    · rw [if_neg h2]
      rcases Nat.lt_or_ge i k with h3 | h3
      · rw [List.getElem?_append_left (by omega), List.getElem?_append_left (by omega), List.getElem?_take, List.getElem?_take, if_pos (by omega), if_pos h3]
      · rw [List.getElem?_append_right (by omega), List.getElem?_append_right (by omega), e1, e2]
        obtain ⟨m, rfl⟩ : ∃ m, i = k + 2 + m := ⟨i - (k + 2), by omega⟩
        rw [show k + 2 + m - (k + 1) = m + 1 by omega, show k + 2 + m - k = m + 2 by omega]
        simp [List.getElem?_drop]
        rw [show k + 1 + m = k + (m + 1) by omega]
theorem midL_srt {us : List Int} {k : Nat} {x : Int} (hk : k ≤ (srt us).length) (hi : ∀ j, k ≤ j → j < (srt us).length → x < (srt us).getD j 0) (hl : k = 0 ∨ (srt us).getD (k - 1) 0 ≤ x) : midL (srt us) k x = srt (us ++ [x]) := by
  have hs := srt_sorted us
  refine srt_eq ?_ ?_
  · unfold midL
    refine (List.perm_middle).trans ?_
    rw [List.take_append_drop]
    refine (List.Perm.cons x (srt_perm us)).trans ?_
    exact (List.perm_append_comm (l₁ := [x]) (l₂ := us))
  · rw [List.pairwise_iff_getElem] at hs
    unfold midL
    rw [List.pairwise_append]
    refine ⟨?_, ?_, ?_⟩
    · exact (List.pairwise_iff_getElem.2 hs).sublist (List.take_sublist _ _)
    · rw [List.pairwise_cons]
      refine ⟨fun a ha => ?_, (List.pairwise_iff_getElem.2 hs).sublist (List.drop_sublist _ _)⟩
      obtain ⟨j, hj, rfl⟩ := List.mem_iff_getElem.1 ha
      rw [List.length_drop] at hj
      rw [List.getElem_drop]
      have := hi (k + j) (by omega) (by omega)
      rw [getD_eq (by omega)] at this
      omega
    · intro a ha b hb
      obtain ⟨j, hj, rfl⟩ := List.mem_iff_getElem.1 ha
      rw [List.length_take] at hj
      rw [List.getElem_take]
      have hax : (srt us)[j]'(by omega) ≤ x := by
        rcases hl with h0 | h0
        · omega
        · rw [getD_eq (by omega)] at h0
          rcases Nat.lt_or_ge j (k - 1) with h1 | h1
          · have := hs j (k - 1) (by omega) (by omega) h1
            omega
          · have : j = k - 1 := by omega
            subst this
            exact h0
      rcases List.mem_cons.1 hb with rfl | hb
      · exact hax
      · obtain ⟨i, hi2, rfl⟩ := List.mem_iff_getElem.1 hb
        rw [List.length_drop] at hi2
        rw [List.getElem_drop]
        exact hs j (k + i) (by omega) (by omega) (by omega)

end Go.Proofs.Ytfncmgaeecjacaa.deck
