/-
  Pots have all stakes and what is shared is all of them, in numbers alone. Conditions: those of each theorem.
-/
import Derived.Test.YtlfffkjgepgcfaaShP
namespace Go.Proofs.Ytlfffkjgepgcfaa.chance
open Go.RowKit
open base mem

/-! ### sums -/
def capT (xs : List Int) (h : Int) : Nat → Int
  | 0 => 0
  | k + 1 => capT xs h k + min (xs.getD k 0) h
def totT (xs : List Int) : Nat → Int
  | 0 => 0
  | k + 1 => totT xs k + xs.getD k 0
theorem tot_take (xs : List Int) : ∀ k, k ≤ xs.length → totT xs k = (xs.take k).sum
  | 0, _ => by simp [totT]
  | k + 1, hk => by
    have e : xs.getD k 0 = xs[k] := by simp [List.getD, show k < xs.length by omega]
    rw [List.take_succ_eq_append_getElem (by omega), List.sum_append, ← tot_take xs k (by omega), totT, e]
    simp
theorem tot_sum (xs : List Int) : totT xs xs.length = xs.sum := by rw [tot_take xs _ (Nat.le_refl _), List.take_length]
theorem potT_cap (xs : List Int) (high low : Int) (h : low ≤ high) (k : Nat) : potT xs high low k = capT xs high k - capT xs low k := by
  induction k with
  | zero => rfl
  | succ k ih => unfold potT capT; rw [ih]; omega
theorem extT_cap (xs : List Int) (low : Int) (k : Nat) : extT xs low k = totT xs k - capT xs low k := by
  induction k with
  | zero => rfl
  | succ k ih => unfold extT capT totT; rw [ih]; split <;> omega
theorem cap_zero (xs : List Int) (k : Nat) (hx : ∀ i, i < k → 0 ≤ xs.getD i 0) : capT xs 0 k = 0 := by
  induction k with
  | zero => rfl
  | succ k ih =>
    have := hx k (Nat.lt_succ_self _)
    unfold capT
    rw [ih fun i hi => hx i (by omega)]
    omega
theorem low_mono {L : List Int} (hL : L.Pairwise (· < ·)) (hp : ∀ x ∈ L, 0 < x) {j : Nat} (hj : j < L.length) : lowA L j ≤ L.getD j 0 := by
  have e : L.getD j 0 = L[j] := by simp [List.getD, hj]
  unfold lowA
  split
  · rw [e]; exact Int.le_of_lt (hp _ (List.getElem_mem hj))
  · have e2 : L.getD (j - 1) 0 = L[j - 1] := by simp [List.getD, show j - 1 < L.length by omega]
    rw [e, e2]
    exact Int.le_of_lt (List.pairwise_iff_getElem.1 hL (j - 1) j (by omega) hj (by omega))
theorem sum_potsL {xs L : List Int} {n : Nat} (hL : L.Pairwise (· < ·)) (hp : ∀ x ∈ L, 0 < x) (hx : ∀ i, i < n → 0 ≤ xs.getD i 0) : ∀ k, k ≤ L.length → (potsL xs L n k).sum = capT xs (lowA L k) n
  | 0, _ => by
    rw [show lowA L 0 = 0 from rfl, cap_zero xs n hx]
    rfl
  | k + 1, hk => by
    rw [potsL_step, List.sum_append, sum_potsL hL hp hx k (by omega), show lowA L (k + 1) = L.getD k 0 from rfl, List.sum_singleton, potT_cap _ _ _ (low_mono hL hp (show k < L.length by omega))]
    omega
theorem sum_allPots {xs L : List Int} {n : Nat} (hL : L.Pairwise (· < ·)) (hp : ∀ x ∈ L, 0 < x) (hx : ∀ i, i < n → 0 ≤ xs.getD i 0) (h1 : 1 ≤ L.length) : (allPots xs L n).sum = totT xs n := by
  unfold allPots
  rw [List.sum_append, sum_potsL hL hp hx _ (by omega), List.sum_singleton, potT_cap _ _ _ (low_mono hL hp (show L.length - 1 < L.length by omega)), extT_cap]
  omega
theorem sp_shape {xs : List Int} {ob : List Bool} (h : spOk xs ob = true) : ∃ L : List Int, L.Pairwise (· < ·) ∧ (∀ x ∈ L, 0 < x) ∧ 1 ≤ L.length ∧ spPots xs ob = allPots xs L xs.length ∧ spSets xs ob = setsL xs ob L xs.length L.length ∧ (spPots xs ob).length = L.length := by
  have hf := (spPots_facts h).1
  have hne : ¬ (lvls xs ob xs.length).length = 0 := by
    unfold spOk at h
    rw [Bool.and_eq_true] at h
    intro e
    rw [e] at h
    exact absurd h.2 (by decide)
  have hlf := lvls_facts xs ob xs.length
  refine ⟨lvls xs ob xs.length, hlf.1, fun x hx => ((hlf.2 x).1 hx).1, by omega, ?_, ?_, hf⟩
  · unfold spPots potsOut; rw [if_pos h, if_neg hne]
  · unfold spSets setsOut; rw [if_pos h]
theorem sp_stakes {xs : List Int} {ob : List Bool} (h : spOk xs ob = true) : (1 ≤ xs.length ∧ xs.length ≤ 6) ∧ ∀ i, i < xs.length → 0 ≤ xs.getD i 0 ∧ xs.getD i 0 ≤ 1000000 := by
  have hst : stOk xs ob = true := by unfold spOk at h; rw [Bool.and_eq_true] at h; exact h.1
  obtain ⟨h16, _, hx⟩ := st_facts hst
  exact ⟨h16, hx⟩
/-- pots have all stakes -/
theorem sum_pots {xs : List Int} {ob : List Bool} (h : spOk xs ob = true) : (spPots xs ob).sum = xs.sum := by
  obtain ⟨L, h1, h2, h3, h4, _, _⟩ := sp_shape h
  rw [h4, sum_allPots h1 h2 (fun i hi => ((sp_stakes h).2 i hi).1) h3, tot_sum]

/-! ### shares -/
theorem sum_set : ∀ (l : List Int) (i : Nat) (v : Int), i < l.length → (l.set i v).sum = l.sum - l.getD i 0 + v
  | [], _, _, h => absurd h (Nat.not_lt_zero _)
  | a :: l, 0, v, _ => by
    rw [List.set_cons_zero, List.sum_cons, List.sum_cons, show (a :: l).getD 0 0 = a from rfl]
    omega
  | a :: l, i + 1, v, h => by
    rw [List.set_cons_succ, List.sum_cons, List.sum_cons, sum_set l i v (by simpa using h), show (a :: l).getD (i + 1) 0 = l.getD i 0 from rfl]
    omega
theorem gW_sum {G : List Int} {P : Int} {m : Nat} {W : List Nat} (hP : 0 ≤ P) (hm : 1 ≤ m) (hW : ∀ j, j < W.length → W.getD j 0 < G.length) : ∀ j, j ≤ W.length → (gW G P m W j).sum = G.sum + j * (P / m) + min (j : Int) (P % m)
  | 0, _ => by
    have := Int.emod_nonneg P (show (m : Int) ≠ 0 by omega)
    show G.sum = G.sum + ((0 : Nat) : Int) * (P / m) + min ((0 : Nat) : Int) (P % m)
    rw [show ((0 : Nat) : Int) = 0 from rfl, Int.zero_mul]
    omega
  | j + 1, hj => by
    have ih := gW_sum hP hm hW j (by omega)
    rw [gW, sum_set _ _ _ (by rw [gW_len]; exact hW j (by omega)), ih]
    have e : ((j + 1 : Nat) : Int) * (P / m) = j * (P / m) + P / m := by rw [Int.natCast_add, Int.add_mul]; simp
    rw [e]
    generalize (j : Int) * (P / (m : Int)) = Q
    generalize P / (m : Int) = q
    generalize P % (m : Int) = r
    split <;> omega
theorem gW_far {G : List Int} {P : Int} {m : Nat} {W : List Nat} {i : Nat} (hi : ∀ j, j < W.length → W.getD j 0 ≠ i) : ∀ j, j ≤ W.length → (gW G P m W j).getD i 0 = G.getD i 0
  | 0, _ => rfl
  | j + 1, hj => by rw [gW, set_far _ _ _ _ (fun e => hi j (by omega) e.symm), gW_far hi j (by omega)]
theorem wT_in {s : Nat} {ys : List Int} {n : Nat} (hy : ∀ i, i < n → 0 ≤ ys.getD i 0) {j : Nat} (hj : j < (wT s ys n).length) : (wT s ys n).getD j 0 < n ∧ winB s ((wT s ys n).getD j 0) = true := by
  rw [wT_eq s ys n hy] at hj ⊢
  have e : (wF s ys (mostT s ys n) n).getD j 0 = (wF s ys (mostT s ys n) n)[j] := by simp [List.getD, hj]
  rw [e]
  have := List.getElem_mem hj
  unfold wF at this ⊢
  rw [List.mem_filter, List.mem_range] at this
  refine ⟨this.1, ?_⟩
  have h2 := this.2
  unfold isW at h2
  rw [Bool.and_eq_true] at h2
  exact h2.1
theorem set_inv (xs : List Int) (ob : List Bool) (H : Int) (n i : Nat) (hi : i < n) (h : winB (setT xs ob H n) i = true) : live ob i = true ∧ H ≤ xs.getD i 0 := by
  unfold winB at h
  induction n with
  | zero => exact absurd hi (Nat.not_lt_zero i)
  | succ n ih =>
    have hlt := setT_lt xs ob H n
    unfold setT at h
    rcases Nat.lt_succ_iff_lt_or_eq.1 hi with h1 | h1
    · split at h
      · rw [Nat.add_comm, Nat.testBit_two_pow_add_gt h1] at h
        exact ih h1 h
      · exact ih h1 h
    · subst h1
      split at h
      · assumption
      · rw [Nat.testBit_lt_two_pow hlt] at h
        cases h
theorem shT_sum {PS SS ys : List Int} {n : Nat} (hy : ∀ i, i < n → 0 ≤ ys.getD i 0) (hP : ∀ p, p < PS.length → 0 ≤ PS.getD p 0) (hw : ∀ p, p < PS.length → 1 ≤ (wT (SS.getD p 0).toNat ys n).length) : ∀ p, p ≤ PS.length → (shT PS SS ys n p).sum = totT PS p
  | 0, _ => by
    show (List.replicate n (0 : Int)).sum = 0
    simp
  | p + 1, hp => by
    have ih := shT_sum hy hP hw p (by omega)
    have h1 := hw p (by omega)
    have h2 := hP p (by omega)
    rw [shT, totT, gW_sum h2 h1 (fun j hj => by rw [shT_len]; exact (wT_in hy hj).1) _ (Nat.le_refl _), ih]
    have h3 := Int.emod_lt_of_pos (PS.getD p 0) (show (0 : Int) < ((wT (SS.getD p 0).toNat ys n).length : Int) by omega)
    have h4 := Int.mul_ediv_add_emod (PS.getD p 0) ((wT (SS.getD p 0).toNat ys n).length : Int)
    generalize ((wT (SS.getD p 0).toNat ys n).length : Int) = m at *
    generalize PS.getD p 0 % m = r at *
    generalize m * (PS.getD p 0 / m) = Q at *
    omega
theorem shT_zero {PS SS ys : List Int} {n i : Nat} (hy : ∀ i, i < n → 0 ≤ ys.getD i 0) (hi : ∀ p, p < PS.length → winB (SS.getD p 0).toNat i = false) : ∀ p, p ≤ PS.length → (shT PS SS ys n p).getD i 0 = 0
  | 0, _ => by
    show (List.replicate n (0 : Int)).getD i 0 = 0
    by_cases h : i < n
    · simp [List.getD, h]
    · simp [List.getD, h]
  | p + 1, hp => by
    rw [shT, gW_far (fun j hj e => ?_) _ (Nat.le_refl _), shT_zero hy hi p (by omega)]
    have h1 := (wT_in hy hj).2
    rw [e, hi p (by omega)] at h1
    cases h1
/-- what is shared is all, and who is out or put nothing in gets nothing -/
theorem gets_ok {xs : List Int} {ob : List Bool} {ys : List Int} (h : shOk xs ob ys = true) : (shOut xs ob ys).sum = xs.sum ∧ (shOut xs ob ys).length = xs.length ∧ ∀ i, i < xs.length → 0 ≤ (shOut xs ob ys).getD i 0 ∧ (shOut xs ob ys).getD i 0 ≤ 1000000000 ∧ (live ob i = false ∨ xs.getD i 0 = 0 → (shOut xs ob ys).getD i 0 = 0) := by
  have hsp : spOk xs ob = true := by unfold shOk at h; rw [Bool.and_eq_true] at h; exact h.1
  have hyl : ys.length = xs.length ∧ badB 10000000 0 ys = false := by
    unfold shOk at h
    simp only [Bool.and_eq_true, decide_eq_true_iff, Bool.not_eq_true'] at h
    exact h.2
  have hy : ∀ i, i < xs.length → 0 ≤ ys.getD i 0 := fun i hi => (bad_at hyl.2 (by omega)).1
  obtain ⟨f1, f2, f3, f4⟩ := spPots_facts hsp
  obtain ⟨L, g1, g2, g3, g4, g5, g6⟩ := sp_shape hsp
  have hw : ∀ p, p < (spPots xs ob).length → 1 ≤ (wT ((spSets xs ob).getD p 0).toNat ys xs.length).length := fun p hp => by
    obtain ⟨H, i, e, hi, hb⟩ := f4 p hp
    rw [e, Int.toNat_natCast]
    exact wT_some _ ys _ i hi hb hy
  have e0 : shOut xs ob ys = shT (spPots xs ob) (spSets xs ob) ys xs.length (spPots xs ob).length := by unfold shOut; rw [if_pos h]
  rw [e0]
  have hb := shT_bound (spPots xs ob) (spSets xs ob) ys xs.length (sp_stakes hsp).1.2 f3 hw _ (Nat.le_refl _)
  have hl6 : (spPots xs ob).length ≤ 6 := by
    rw [f1]
    exact Nat.le_trans (lvls_len _ _ _) (sp_stakes hsp).1.2
  refine ⟨?_, shT_len _ _ _ _ _, fun i hi => ⟨(hb i).1, by have := (hb i).2; omega, fun ho => ?_⟩⟩
  · rw [shT_sum hy (fun p hp => (f3 p hp).1) hw _ (Nat.le_refl _), tot_sum, sum_pots hsp]
  · refine shT_zero hy (fun p hp => ?_) _ (Nat.le_refl _)
    rw [g6] at hp
    have e1 : (spSets xs ob).getD p 0 = ((setT xs ob (L.getD p 0) xs.length : Nat) : Int) := by
      rw [g5]
      unfold setsL
      simp only [List.getD, List.getElem?_map, List.getElem?_range hp, Option.map_some, Option.getD_some]
    rw [e1, Int.toNat_natCast]
    cases hb2 : winB (setT xs ob (L.getD p 0) xs.length) i with
    | false => rfl
    | true =>
      exfalso
      obtain ⟨a, b⟩ := set_inv xs ob _ _ i hi hb2
      have e3 : L.getD p 0 = L[p] := by simp [List.getD, hp]
      have hpos := g2 _ (List.getElem_mem hp)
      rcases ho with ho | ho
      · rw [ho] at a; cases a
      · rw [e3, ho] at b; omega
end Go.Proofs.Ytlfffkjgepgcfaa.chance
