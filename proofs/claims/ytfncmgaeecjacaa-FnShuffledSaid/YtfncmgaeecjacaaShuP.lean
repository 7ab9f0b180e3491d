/-
  Shuffles lose no card and are undone, in lists alone. Conditions: those of each theorem.
-/
import Derived.Test.YtfncmgaeecjacaaRiff
import Derived.Test.YtfncmgaeecjacaaOver
import Derived.Test.YtfncmgaeecjacaaMonge
import Derived.Test.YtfncmgaeecjacaaCut
import Derived.Test.YtfncmgaeecjacaaTurn
import Derived.Test.YtfncmgaeecjacaaBack
import Derived.Test.YtfncmgaeecjacaaOrd
namespace Go.Proofs.Ytfncmgaeecjacaa.deck
open Go.RowKit
open base mem

/-! ### decks -/
theorem getD_eq {xs : List Int} {k : Nat} (h : k < xs.length) : xs.getD k 0 = xs[k] := by simp [List.getD, h]
theorem ord_iff (xs : List Int) : ordB xs = true ↔ xs.Nodup ∧ ∀ x ∈ xs, 0 ≤ x ∧ x < (xs.length : Int) := by
  constructor
  · intro h
    refine ⟨?_, fun x hx => ?_⟩
    · rw [List.nodup_iff_pairwise_ne, List.pairwise_iff_getElem]
      intro i j hi hj hij he
      have := ord_inj h hi hj (by rw [getD_eq hi, getD_eq hj, he])
      omega
    · obtain ⟨k, hk, rfl⟩ := List.mem_iff_getElem.1 hx
      have := inB_yes (good_range (ord_at h hk))
      rw [getD_eq hk] at this
      omega
  · rintro ⟨hn, hr⟩
    refine ord_yes fun j hj => ?_
    have hx := hr _ (List.getElem_mem hj)
    unfold goodAt
    rw [getD_eq hj, inB_mk (by omega) (by omega), Bool.true_and, Bool.not_eq_true']
    refine decide_eq_false fun hm => ?_
    obtain ⟨i, hi, he⟩ := List.mem_iff_getElem.1 hm
    rw [List.length_take] at hi
    rw [List.getElem_take] at he
    exact List.pairwise_iff_getElem.1 (List.nodup_iff_pairwise_ne.1 hn) i j (by omega) hj (by omega) he
theorem ord_perm {xs ys : List Int} (h : xs.Perm ys) (hy : ordB ys = true) : ordB xs = true := by
  rw [ord_iff] at hy ⊢
  refine ⟨h.nodup_iff.2 hy.1, fun x hx => ?_⟩
  have := hy.2 x (h.mem_iff.1 hx)
  rw [h.length_eq]
  exact this
theorem deck_perm {xs ys : List Int} (h : xs.Perm ys) (hy : deckB ys = true) : deckB xs = true := by
  have hl := deck_len hy
  rw [deck_mk (by rw [h.length_eq]; exact hl)]
  exact ord_perm h (deck_ord hy)
theorem news_at {n k : Nat} (h : k < n) : (news n).getD k 0 = (k : Int) := by simp [news, List.getD, h]
theorem news_ord (n : Nat) : ordB (news n) = true := by
  rw [ord_iff]
  refine ⟨?_, fun x hx => ?_⟩
  · rw [List.nodup_iff_pairwise_ne, List.pairwise_iff_getElem]
    intro i j hi hj hij he
    rw [news_len] at hi hj
    simp [news] at he
    omega
  · rw [news_len]
    unfold news at hx
    obtain ⟨y, hy, rfl⟩ := List.mem_map.1 hx
    rw [List.mem_range] at hy
    omega
theorem news_deck {n : Nat} (h1 : 1 ≤ n) (h2 : n ≤ 52) : deckB (news n) = true := by
  rw [deck_mk (by rw [news_len]; exact ⟨h1, h2⟩)]
  exact news_ord n
theorem ext_at {xs ys : List Int} (hl : xs.length = ys.length) (h : ∀ i, i < xs.length → xs.getD i 0 = ys.getD i 0) : xs = ys := by
  refine List.ext_getElem hl fun i h1 h2 => ?_
  have := h i h1
  rwa [getD_eq h1, getD_eq h2] at this

/-! ### riffles -/
theorem app_at {xs : List Int} {x : Int} {i : Nat} (h : i < xs.length) : (xs ++ [x]).getD i 0 = xs.getD i 0 := by
  simp [List.getD, List.getElem?_append_left h]
theorem app_end {xs : List Int} {x : Int} {i : Nat} (h : i = xs.length) : (xs ++ [x]).getD i 0 = x := by
  subst h; simp [List.getD]
theorem rif_at (xs : List Int) (ys : List Bool) (u : Nat) {j : Nat} : ∀ {k : Nat}, j < k → (rifTo xs ys u k).getD j 0 = if ys.getD j false then xs.getD (u + cT ys j) 0 else xs.getD (cF ys j) 0
  | 0, h => absurd h (Nat.not_lt_zero _)
  | k + 1, h => by
    rw [rifTo]
    rcases Nat.lt_succ_iff_lt_or_eq.1 h with h1 | h1
    · rw [app_at (by rw [rifTo_len]; exact h1), rif_at xs ys u h1]
    · subst h1
      rw [app_end (by rw [rifTo_len])]
theorem take_next {xs : List Int} {k : Nat} (h : k < xs.length) : xs.take (k + 1) = xs.take k ++ [xs.getD k 0] := by
  rw [List.take_succ_eq_append_getElem h, getD_eq h]
theorem cF_mono (ys : List Bool) {j k : Nat} (h : j ≤ k) : cF ys j ≤ cF ys k := by
  have h1 := cF_add ys j
  induction k with
  | zero => obtain rfl : j = 0 := by omega
            exact Nat.le_refl _
  | succ k ih =>
    rcases Nat.lt_succ_iff_lt_or_eq.1 (Nat.lt_succ_of_le h) with h2 | h2
    · rw [cF]; have := ih (by omega); omega
    · rw [h2]; exact Nat.le_refl _
theorem sel_false (xs : List Int) (ys : List Bool) (u n : Nat) (hn : n ≤ xs.length) : ∀ k, k ≤ n → selTo (rifTo xs ys u n) ys false k = xs.take (cF ys k)
  | 0, _ => by simp [selTo, cF]
  | k + 1, hk => by
    have ih := sel_false xs ys u n hn k (by omega)
    have hle := cF_add ys k
    cases h : ys.getD k false with
    | false =>
      rw [selTo_yes h, ih, rif_at xs ys u (show k < n by omega), h, cF, h]
      simp only [Bool.false_eq_true, if_false]
      rw [take_next (by omega)]
    | true =>
      rw [selTo_no (by rw [h]; simp), ih, cF, h]
      simp
theorem drop_at (xs : List Int) (u i : Nat) : (xs.drop u).getD i 0 = xs.getD (u + i) 0 := by simp [List.getD]
theorem sel_true (xs : List Int) (ys : List Bool) (n : Nat) (hn : n ≤ xs.length) : ∀ k, k ≤ n → selTo (rifTo xs ys (cF ys n) n) ys true k = (xs.drop (cF ys n)).take (cT ys k)
  | 0, _ => by simp [selTo, cT]
  | k + 1, hk => by
    have ih := sel_true xs ys n hn k (by omega)
    cases h : ys.getD k false with
    | true =>
      have hhi := rif_hi (n := n) (show k < n by omega) h
      rw [selTo_yes h, ih, rif_at xs ys _ (show k < n by omega), h, cT, h]
      simp only [if_true]
      rw [take_next (by rw [List.length_drop]; omega), drop_at]
    | false =>
      rw [selTo_no (by rw [h]; simp), ih, cT, h]
      simp
theorem rif_back {xs : List Int} {ys : List Bool} (hl : ys.length = xs.length) : selTo (rifTo xs ys (cF ys ys.length) ys.length) ys false ys.length ++ selTo (rifTo xs ys (cF ys ys.length) ys.length) ys true ys.length = xs := by
  have h1 := cF_add ys ys.length
  rw [sel_false xs ys _ _ (by omega) _ (Nat.le_refl _), sel_true xs ys _ (by omega) _ (Nat.le_refl _), List.take_of_length_le (l := xs.drop _) (by rw [List.length_drop]; omega), List.take_append_drop]
theorem sel_perm (zs : List Int) (ys : List Bool) : ∀ k, k ≤ zs.length → (selTo zs ys false k ++ selTo zs ys true k).Perm (zs.take k)
  | 0, _ => by simp [selTo]
  | k + 1, hk => by
    have ih := sel_perm zs ys k (by omega)
    rw [take_next (show k < zs.length by omega)]
    cases h : ys.getD k false with
    | false =>
      rw [selTo_yes h, selTo_no (by rw [h]; simp), List.append_assoc]
      refine (List.Perm.append_left _ (List.perm_append_comm)).trans ?_
      rw [← List.append_assoc]
      exact ih.append_right _
    | true =>
      rw [selTo_no (by rw [h]; simp), selTo_yes h, ← List.append_assoc]
      exact ih.append_right _
theorem rif_perm {xs : List Int} {ys : List Bool} (hl : ys.length = xs.length) : (rifTo xs ys (cF ys ys.length) ys.length).Perm xs := by
  have h := sel_perm (rifTo xs ys (cF ys ys.length) ys.length) ys ys.length (by rw [rifTo_len]; exact Nat.le_refl _)
  rw [rif_back hl, List.take_of_length_le (by rw [rifTo_len]; exact Nat.le_refl _)] at h
  exact h.symm
theorem rif_ok {xs : List Int} {ys : List Bool} (hd : deckB xs = true) (hl : ys.length = xs.length) : rifOk xs ys = true := by
  unfold rifOk
  rw [hd, decide_eq_true hl]; rfl
theorem rifOut_perm {xs : List Int} {ys : List Bool} (hd : deckB xs = true) (hl : ys.length = xs.length) : (rifOut xs ys).Perm xs := by
  unfold rifOut
  rw [if_pos (rif_ok hd hl)]
  exact rif_perm hl
theorem unr_rif {xs : List Int} {ys : List Bool} (hd : deckB xs = true) (hl : ys.length = xs.length) : rifOk (rifOut xs ys) ys = true ∧ unrOut (rifOut xs ys) ys = xs := by
  have hp := rifOut_perm hd hl
  have hk : rifOk (rifOut xs ys) ys = true := rif_ok (deck_perm hp hd) (by rw [hp.length_eq]; exact hl)
  refine ⟨hk, ?_⟩
  unfold unrOut
  rw [if_pos hk]
  unfold rifOut
  rw [if_pos (rif_ok hd hl)]
  exact rif_back hl

/-! ### cuts and turns -/
theorem cut_ok {xs : List Int} {k : Nat} (hd : deckB xs = true) (hk : k ≤ xs.length) : cutOk xs (k : Int) = true := by
  unfold cutOk
  rw [hd, inB_mk (by omega) (by omega)]; rfl
theorem cut_len {xs : List Int} {k : Nat} (hd : deckB xs = true) (hk : k ≤ xs.length) : cutOut xs (k : Int) = xs.drop k ++ xs.take k := by
  unfold cutOut
  rw [if_pos (cut_ok hd hk), Int.toNat_natCast]
theorem cut_perm {xs : List Int} {k : Nat} (hd : deckB xs = true) (hk : k ≤ xs.length) : (cutOut xs (k : Int)).Perm xs := by
  rw [cut_len hd hk]
  refine List.perm_append_comm.trans ?_
  rw [List.take_append_drop]
theorem cut_cut {xs : List Int} {k : Nat} (hd : deckB xs = true) (hk : k ≤ xs.length) : cutOk (cutOut xs (k : Int)) ((xs.length - k : Nat) : Int) = true ∧ cutOut (cutOut xs (k : Int)) ((xs.length - k : Nat) : Int) = xs := by
  have hp := cut_perm hd hk
  have hd2 := deck_perm hp hd
  have hl : xs.length - k ≤ (cutOut xs (k : Int)).length := by rw [hp.length_eq]; omega
  refine ⟨cut_ok hd2 hl, ?_⟩
  rw [cut_len hd2 hl, cut_len hd hk]
  have e : (xs.drop k).length = xs.length - k := List.length_drop
  rw [← e, List.drop_left, List.take_left, List.take_append_drop]
theorem turn_eq {xs : List Int} (hd : deckB xs = true) : turnOut xs = xs.reverse := by unfold turnOut; rw [if_pos hd]
theorem turn_turn {xs : List Int} (hd : deckB xs = true) : deckB (turnOut xs) = true ∧ turnOut (turnOut xs) = xs := by
  have h1 := turn_eq hd
  have h2 : deckB (turnOut xs) = true := by rw [h1]; exact deck_perm (List.reverse_perm xs) hd
  exact ⟨h2, by rw [turn_eq h2, h1, List.reverse_reverse]⟩

/-! ### other shuffles -/
theorem mon_perm (xs : List Int) : ∀ k, k ≤ xs.length → (mon xs k).Perm (xs.take k)
  | 0, _ => by simp [mon]
  | k + 1, hk => by
    have ih := mon_perm xs k (by omega)
    rw [take_next (show k < xs.length by omega), mon]
    split
    · exact (ih.cons _).trans (List.perm_append_singleton _ _).symm
    · exact ih.append_right _
theorem monOut_perm {xs : List Int} (hd : deckB xs = true) : (monOut xs).Perm xs := by
  unfold monOut
  rw [if_pos hd]
  have := mon_perm xs xs.length (Nat.le_refl _)
  rwa [List.take_length] at this
theorem one_at {n j : Nat} (h : j < n) : (List.replicate n (1 : Int)).getD j 0 = 1 := by simp [List.getD, h]
theorem ovA_ones (n : Nat) : ∀ k, k ≤ n → ovA (List.replicate n 1) k = k
  | 0, _ => rfl
  | k + 1, hk => by rw [ovA, ovA_ones n k (by omega), one_at (show k < n by omega)]; rfl
theorem ovL_ones {xs : List Int} {n : Nat} (hn : xs.length = n) : ∀ k, k ≤ n → ovL xs (List.replicate n 1) k = (xs.take k).reverse
  | 0, _ => by simp [ovL]
  | k + 1, hk => by
    have hkx : k < xs.length := by omega
    rw [ovL, ovA_ones n (k + 1) hk, ovA_ones n k (by omega), ovL_ones hn k (by omega), take_next hkx, List.reverse_append, List.drop_append_of_le_length (by rw [List.length_take]; omega), List.drop_eq_nil_of_le (by rw [List.length_take]; omega)]
    simp
theorem ov_ones {xs : List Int} {n : Nat} (hd : deckB xs = true) (hn : xs.length = n) : ovOk xs (List.replicate n 1) = true ∧ ovOut xs (List.replicate n 1) = xs.reverse := by
  have hk : ovOk xs (List.replicate n 1) = true := by
    unfold ovOk
    rw [hd, decide_eq_true (by rw [List.length_replicate]; omega), Bool.true_and, Bool.true_and]
    rw [ovG_all fun j hj => by
      rw [List.length_replicate] at hj
      unfold ovB
      rw [one_at hj, ovA_ones n j (by omega)]
      exact inB_mk (by omega) (by omega)]
    rw [List.length_replicate, ovA_ones n n (Nat.le_refl _)]
    exact decide_eq_true hn.symm
  refine ⟨hk, ?_⟩
  unfold ovOut
  rw [if_pos hk, List.length_replicate, ovL_ones hn n (Nat.le_refl _), List.take_of_length_le (by omega)]
theorem ov_whole {xs : List Int} {n : Nat} (hd : deckB xs = true) (hn : xs.length = n) : ovOk xs [(n : Int)] = true ∧ ovOut xs [(n : Int)] = xs := by
  have hl := deck_len hd
  have e0 : ovA [(n : Int)] 0 = 0 := rfl
  have e1 : ovA [(n : Int)] 1 = n := by
    rw [ovA, e0, show ([(n : Int)]).getD 0 0 = (n : Int) from rfl, Int.toNat_natCast, Nat.zero_add]
  have hk : ovOk xs [(n : Int)] = true := by
    unfold ovOk
    rw [hd, decide_eq_true (show [(n : Int)].length ≤ xs.length by simp; omega), Bool.true_and, Bool.true_and]
    rw [ovG_all fun j hj => by
      obtain rfl : j = 0 := by simpa using hj
      unfold ovB
      rw [e0, show ([(n : Int)]).getD 0 0 = (n : Int) from rfl]
      exact inB_mk (by omega) (by omega)]
    rw [show [(n : Int)].length = 1 from rfl, e1]
    exact decide_eq_true hn.symm
  refine ⟨hk, ?_⟩
  unfold ovOut
  rw [if_pos hk, show [(n : Int)].length = 1 from rfl, ovL, e1, e0, ovL, List.append_nil, List.drop_zero, List.take_of_length_le (by omega)]

end Go.Proofs.Ytfncmgaeecjacaa.deck
