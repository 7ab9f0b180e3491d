/-
  Whether cards are a hand: both packages answer the same. Conditions: those of each theorem.
-/
import Derived.Test.YtfncmgaeecjacaaApp
namespace Go.Proofs.Ytfncmgaeecjacaa.hand
open Go.RowKit
open base mem

/-! ### no program in sight -/
def hasB (xs : List Int) (x : Int) : Bool := decide (x ∈ xs)
theorem has_no {xs : List Int} {x : Int} (h : ∀ j, j < xs.length → xs.getD j 0 ≠ x) : hasB xs x = false := by
  unfold hasB
  refine decide_eq_false fun hm => ?_
  obtain ⟨j, hj, he⟩ := List.mem_iff_getElem.1 hm
  exact h j hj (by simp [List.getD, hj, he])
theorem has_yes {xs : List Int} {x : Int} {j : Nat} (hj : j < xs.length) (h : xs.getD j 0 = x) : hasB xs x = true := by
  unfold hasB
  refine decide_eq_true ?_
  rw [← h]
  simp [List.getD, hj]
def goodC (xs : List Int) (k : Nat) : Bool := inB (xs.getD k 0) 0 51 && !hasB (xs.take k) (xs.getD k 0)
def cardsB (xs : List Int) : Bool := (List.range xs.length).all (goodC xs)
def handB (xs : List Int) (lo hi : Nat) : Bool := decide (lo ≤ xs.length ∧ xs.length ≤ hi) && cardsB xs
theorem cards_no {xs : List Int} {k : Nat} (hk : k < xs.length) (h : goodC xs k = false) : cardsB xs = false := by
  unfold cardsB
  rw [List.all_eq_false]
  exact ⟨k, by simpa using hk, by simp [h]⟩
theorem cards_yes {xs : List Int} (h : ∀ j, j < xs.length → goodC xs j = true) : cardsB xs = true := by
  unfold cardsB
  rw [List.all_eq_true]
  intro j hj
  exact h j (by simpa using hj)
theorem cards_at {xs : List Int} (h : cardsB xs = true) {k : Nat} (hk : k < xs.length) : goodC xs k = true := by
  unfold cardsB at h
  rw [List.all_eq_true] at h
  exact h k (by simpa using hk)
theorem hand_cards {xs : List Int} {lo hi : Nat} (h : handB xs lo hi = true) : cardsB xs = true := by
  unfold handB at h
  rw [Bool.and_eq_true] at h
  exact h.2
theorem hand_len {xs : List Int} {lo hi : Nat} (h : handB xs lo hi = true) : lo ≤ xs.length ∧ xs.length ≤ hi := by
  unfold handB at h
  rw [Bool.and_eq_true] at h
  exact of_decide_eq_true h.1
theorem card_range {xs : List Int} (h : cardsB xs = true) {k : Nat} (hk : k < xs.length) : ∃ j : Nat, xs.getD k 0 = (j : Int) ∧ j < 52 := by
  have h1 := cards_at h hk
  unfold goodC at h1
  rw [Bool.and_eq_true] at h1
  obtain ⟨a, b⟩ := inB_yes h1.1
  obtain ⟨j, hj⟩ := Int.eq_ofNat_of_zero_le a
  exact ⟨j, hj, by omega⟩
theorem quiet_eq {P : Program} {f : FuncId} {args : Array Value} {w : World} {n : Nat} {v : Value}
    (h : Calls P f args (w.drewN n) fun e w' => e = .returned v ∧ w.drewN n = w') : Calls P f args (w.drewN n) fun e w'' => e = .returned v ∧ ∃ m, w'' = w.drewN m :=
  h.mono fun _ _ ⟨he, hm⟩ => ⟨he, n, hm.symm⟩
/-! ### the program -/

/-- what an index tells -/
def idxOk (xs : List Int) (x : Int) (i : Int) : Prop := (hasB xs x = true ∧ 0 ≤ i ∧ i < 9223372036854775808) ∨ (hasB xs x = false ∧ i = -1)

theorem hand_five (xs : List Int) : handB xs 5 5 = (handB xs 1 7 && decide (xs.length = 5)) := by
  unfold handB
  cases cardsB xs
  · simp
  · rw [Bool.eq_iff_iff]; simp; omega
theorem hand_big (xs : List Int) : handB xs 5 7 = (handB xs 1 7 && decide (5 ≤ xs.length)) := by
  unfold handB
  cases cardsB xs
  · simp
  · rw [Bool.eq_iff_iff]; simp; omega

end Go.Proofs.Ytfncmgaeecjacaa.hand
