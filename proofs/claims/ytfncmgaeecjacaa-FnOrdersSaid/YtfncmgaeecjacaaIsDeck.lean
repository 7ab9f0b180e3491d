/-
  New decks, and decks whose cards change places, are decks. Conditions: those of each theorem.
-/
import Derived.Test.YtfncmgaeecjacaaDraw
import Derived.Test.YtfncmgaeecjacaaDeck
namespace Go.Proofs.Ytfncmgaeecjacaa.deck
open Go.RowKit
open base mem

theorem take_getD (xs : List Int) (k j : Nat) (h : j < k) : (xs.take k).getD j 0 = xs.getD j 0 := by simp [List.getD, h]
theorem ord_mk {xs : List Int} (h1 : ∀ k, k < xs.length → inB (xs.getD k 0) 0 ((xs.length : Int) - 1) = true) (h2 : ∀ i j, i < xs.length → j < xs.length → xs.getD i 0 = xs.getD j 0 → i = j) : ordB xs = true := by
  refine ord_yes fun k hk => ?_
  unfold goodAt
  rw [h1 k hk, Bool.true_and]
  have : hasB (xs.take k) (xs.getD k 0) = false := by
    refine has_no fun j hj => ?_
    have hjk : j < k := by rw [List.length_take] at hj; omega
    rw [take_getD xs k j hjk]
    intro e
    have := h2 j k (by omega) hk e
    omega
  rw [this]
  rfl
theorem news_getD (n k : Nat) (h : k < n) : (news n).getD k 0 = (k : Int) := by simp [news, List.getD, h]
theorem ord_news (n : Nat) : ordB (news n) = true := by
  refine ord_mk (fun k hk => ?_) (fun i j hi hj e => ?_)
  · rw [news_len] at hk ⊢
    rw [news_getD n k hk]
    exact inB_mk (by omega) (by omega)
  · rw [news_len] at hi hj
    rw [news_getD n i hi, news_getD n j hj] at e
    omega
def sw (i k j : Nat) : Nat := if j = k then i else if j = i then k else j
theorem sw_inj {i k a b : Nat} (h : sw i k a = sw i k b) : a = b := by
  unfold sw at h
  split at h <;> split at h <;> (try split at h) <;> (try split at h) <;> omega
theorem swapL_getD (xs : List Int) (i k j : Nat) (hi : i < xs.length) (hk : k < xs.length) (_hj : j < xs.length) : (swapL xs i k).getD j 0 = xs.getD (sw i k j) 0 := by
  simp only [swapL, sw]
  rw [List.getD_eq_getElem?_getD, List.getElem?_set, List.getElem?_set]
  simp only [List.length_set]
  by_cases h1 : k = j
  · subst h1
    simp [hk]
  · have h1' : ¬ j = k := fun e => h1 e.symm
    by_cases h2 : i = j
    · subst h2
      simp [h1, h1', hi]
    · have h2' : ¬ j = i := fun e => h2 e.symm
      simp [h1, h1', h2, h2']
theorem sw_lt {n i k j : Nat} (hi : i < n) (hk : k < n) (hj : j < n) : sw i k j < n := by unfold sw; split <;> (try split) <;> omega
theorem ord_swap {xs : List Int} (h : ordB xs = true) {i k : Nat} (hi : i < xs.length) (hk : k < xs.length) : ordB (swapL xs i k) = true := by
  refine ord_mk (fun j hj => ?_) (fun a b ha hb e => ?_)
  · rw [swapL_len] at hj ⊢
    rw [swapL_getD xs i k j hi hk hj]
    exact good_range (ord_at h (sw_lt hi hk hj))
  · rw [swapL_len] at ha hb
    rw [swapL_getD xs i k a hi hk ha, swapL_getD xs i k b hi hk hb] at e
    exact sw_inj (ord_inj h (sw_lt hi hk ha) (sw_lt hi hk hb) e)
theorem ord_drTo (n s0 j : Nat) (hj : j < n) : ordB (drTo n s0 j).1 = true := by
  induction j with
  | zero => exact ord_news n
  | succ j ih =>
    rw [drTo_succ]
    refine ord_swap (ih (by omega)) ?_ ?_
    · rw [drTo_len]; omega
    · rw [drTo_len]
      have := pickK_le (n - 1 - j) (nextS_lt (drTo n s0 j).2)
      omega
theorem deck_drawn (n s0 : Nat) (h1 : 1 ≤ n) (h2 : n ≤ 52) : deckB (drawn n s0).1 = true := by
  have hl : (drawn n s0).1.length = n := by unfold drawn; rw [drTo_len]
  rw [deck_mk (by rw [hl]; exact ⟨h1, h2⟩)]
  unfold drawn
  exact ord_drTo n s0 (n - 1) (by omega)
end Go.Proofs.Ytfncmgaeecjacaa.deck
