/-
  Runs of riffles, perfect shuffles again and again, and piles dealt and gathered, in lists alone. Conditions: those of each theorem.
-/
import Derived.Test.YtfncmgaeecjacaaShuP
import Derived.Test.YtfncmgaeecjacaaDeal
import Derived.Test.YtfncmgaeecjacaaGath
namespace Go.Proofs.Ytfncmgaeecjacaa.deck
open Go.RowKit
open base mem grid

/-! ### places -/
theorem set_at {l : List Int} {i : Nat} (x : Int) (h : i < l.length) : (l.set i x).getD i 0 = x := by simp [List.getD, h]
theorem set_else {l : List Int} {i j : Nat} (x : Int) (h : i ≠ j) : (l.set i x).getD j 0 = l.getD j 0 := by simp [List.getD, List.getElem?_set_ne h]
theorem card_nat {xs : List Int} (h : ordB xs = true) {j : Nat} (hj : j < xs.length) : 0 ≤ xs.getD j 0 ∧ xs.getD j 0 < xs.length := by
  have := inB_yes (good_range (ord_at h hj))
  omega
theorem plTo_at {xs : List Int} (h : ordB xs = true) {j : Nat} : ∀ {k : Nat}, k ≤ xs.length → j < k → (plTo xs k).getD (xs.getD j 0).toNat 0 = (j : Int)
  | 0, _, hj => absurd hj (Nat.not_lt_zero _)
  | k + 1, hk, hj => by
    have hcj := card_nat h (show j < xs.length by omega)
    have hck := card_nat h (show k < xs.length by omega)
    rw [plTo]
    rcases Nat.lt_succ_iff_lt_or_eq.1 hj with h1 | h1
    · rw [set_else _ (fun e => ?_), plTo_at h (by omega) h1]
      have he : xs.getD k 0 = xs.getD j 0 := by omega
      have := ord_inj h (show k < xs.length by omega) (show j < xs.length by omega) he
      omega
    · subst h1
      rw [set_at _ (by rw [plTo_len]; omega)]
theorem places_at {xs : List Int} (h : ordB xs = true) {j v : Nat} (hj : j < xs.length) (hv : xs.getD j 0 = (v : Int)) : (places xs).getD v 0 = (j : Int) := by
  have := plTo_at h (Nat.le_refl _) hj
  rw [hv, Int.toNat_natCast] at this
  exact this
theorem places_len (xs : List Int) : (places xs).length = xs.length := plTo_len xs _

/-! ### runs of a riffle of a new deck -/
theorem cF_hit (ys : List Bool) : ∀ (n v : Nat), v < cF ys n → ∃ j, j < n ∧ ys.getD j false = false ∧ cF ys j = v
  | 0, v, h => absurd h (Nat.not_lt_zero _)
  | n + 1, v, h => by
    by_cases h1 : v < cF ys n
    · obtain ⟨j, hj, a, b⟩ := cF_hit ys n v h1
      exact ⟨j, by omega, a, b⟩
    · rw [cF] at h
      cases hy : ys.getD n false with
      | true => rw [hy] at h; simp at h; omega
      | false => rw [hy] at h; simp at h; exact ⟨n, by omega, hy, by omega⟩
theorem cT_hit (ys : List Bool) : ∀ (n v : Nat), v < cT ys n → ∃ j, j < n ∧ ys.getD j false = true ∧ cT ys j = v
  | 0, v, h => absurd h (Nat.not_lt_zero _)
  | n + 1, v, h => by
    by_cases h1 : v < cT ys n
    · obtain ⟨j, hj, a, b⟩ := cT_hit ys n v h1
      exact ⟨j, by omega, a, b⟩
    · rw [cT] at h
      cases hy : ys.getD n false with
      | false => rw [hy] at h; simp at h; omega
      | true => rw [hy] at h; simp at h; exact ⟨n, by omega, hy, by omega⟩
theorem place_lo {ys : List Bool} {n v : Nat} (hl : ys.length = n) (hv : v < cF ys n) : ∃ j, j < n ∧ cF ys j = v ∧ (places (rifTo (news n) ys (cF ys n) n)).getD v 0 = (j : Int) := by
  obtain ⟨j, hj, hy, hc⟩ := cF_hit ys n v hv
  have ho : ordB (rifTo (news n) ys (cF ys n) n) = true := by
    have := rif_perm (xs := news n) (ys := ys) (by rw [news_len]; exact hl)
    rw [hl] at this
    exact ord_perm this (news_ord n)
  have hcn := cF_add ys n
  refine ⟨j, hj, hc, places_at ho (by rw [rifTo_len]; exact hj) ?_⟩
  rw [rif_at _ _ _ hj, hy, if_neg (by simp), hc, news_at (by omega)]
theorem place_hi {ys : List Bool} {n v : Nat} (hl : ys.length = n) (hv : v < cT ys n) : ∃ j, j < n ∧ cT ys j = v ∧ (places (rifTo (news n) ys (cF ys n) n)).getD (cF ys n + v) 0 = (j : Int) := by
  obtain ⟨j, hj, hy, hc⟩ := cT_hit ys n v hv
  have ho : ordB (rifTo (news n) ys (cF ys n) n) = true := by
    have := rif_perm (xs := news n) (ys := ys) (by rw [news_len]; exact hl)
    rw [hl] at this
    exact ord_perm this (news_ord n)
  have hcn := cF_add ys n
  refine ⟨j, hj, hc, places_at ho (by rw [rifTo_len]; exact hj) ?_⟩
  rw [rif_at _ _ _ hj, hy, if_pos rfl, hc, news_at (by omega)]
theorem rif_desc {ys : List Bool} {n : Nat} (hl : ys.length = n) : ∀ k, k + 1 ≤ n → descTo (places (rifTo (news n) ys (cF ys n) n)) k ≤ if cF ys n ≤ k then 1 else 0
  | 0, _ => by rw [descTo]; omega
  | k + 1, hk => by
    have ih := rif_desc hl k (by omega)
    have hcn := cF_add ys n
    by_cases h1 : k + 1 < cF ys n
    · obtain ⟨j, hj, c1, p1⟩ := place_lo hl (show k < cF ys n by omega)
      obtain ⟨i, hi, c2, p2⟩ := place_lo hl h1
      have hji : j < i := by
        rcases Nat.lt_or_ge j i with h | h
        · exact h
        · have := cF_mono ys h; omega
      rw [desc_no (by rw [p1, p2]; omega)]
      rw [if_neg (by omega)] at ih
      rw [if_neg (by omega)]
      exact ih
    · by_cases h2 : cF ys n ≤ k
      · obtain ⟨j, hj, c1, p1⟩ := place_hi hl (show k - cF ys n < cT ys n by omega)
        obtain ⟨i, hi, c2, p2⟩ := place_hi hl (show k + 1 - cF ys n < cT ys n by omega)
        rw [show cF ys n + (k - cF ys n) = k by omega] at p1
        rw [show cF ys n + (k + 1 - cF ys n) = k + 1 by omega] at p2
        have hji : j < i := by
          rcases Nat.lt_or_ge j i with h | h
          · exact h
          · have := cT_mono ys h; omega
        rw [desc_no (by rw [p1, p2]; omega)]
        rw [if_pos h2] at ih
        rw [if_pos (by omega)]
        exact ih
      · rw [if_neg h2] at ih
        rw [if_pos (by omega), descTo]
        split <;> omega
theorem runs_le {ys : List Bool} {n : Nat} (hl : ys.length = n) (h1 : 1 ≤ n) (h2 : n ≤ 52) : runsOut (rifOut (news n) ys) ≤ 2 ∧ deckB (rifOut (news n) ys) = true := by
  have hd := news_deck h1 h2
  have hly : ys.length = (news n).length := by rw [news_len]; exact hl
  have hp := rifOut_perm hd hly
  have hd2 := deck_perm hp hd
  refine ⟨?_, hd2⟩
  unfold runsOut
  rw [if_pos hd2]
  have e : rifOut (news n) ys = rifTo (news n) ys (cF ys n) n := by unfold rifOut; rw [if_pos (rif_ok hd hly), hl]
  rw [e]
  unfold desc
  rw [places_len, rifTo_len]
  have := rif_desc hl (n - 1) (by omega)
  split at this <;> omega

/-! ### perfect shuffles -/
theorem pf_at (xs : List Int) (b : Bool) (h : Nat) {j : Nat} : ∀ {k : Nat}, j < k → (pfTo xs b h k).getD (2 * j) 0 = (if b then xs.getD (h + j) 0 else xs.getD j 0) ∧ (pfTo xs b h k).getD (2 * j + 1) 0 = (if b then xs.getD j 0 else xs.getD (h + j) 0)
  | 0, hj => absurd hj (Nat.not_lt_zero _)
  | k + 1, hj => by
    rw [pfTo]
    have hl := pfTo_len xs b h k
    rcases Nat.lt_succ_iff_lt_or_eq.1 hj with h1 | h1
    · obtain ⟨a, c⟩ := pf_at xs b h h1
      rw [← a, ← c]
      constructor
      · simp [List.getD, List.getElem?_append_left (show 2 * j < (pfTo xs b h k).length by omega)]
      · simp [List.getD, List.getElem?_append_left (show 2 * j + 1 < (pfTo xs b h k).length by omega)]
    · subst h1
      constructor
      · simp only [List.getD]
        rw [List.getElem?_append_right (by omega), show 2 * j - (pfTo xs b h j).length = 0 by omega]
        cases b <;> rfl
      · simp only [List.getD]
        rw [List.getElem?_append_right (by omega), show 2 * j + 1 - (pfTo xs b h j).length = 1 by omega]
        cases b <;> rfl
theorem pf_perm (xs : List Int) (b : Bool) (h : Nat) : ∀ k, k ≤ h → h + k ≤ xs.length → (pfTo xs b h k).Perm (xs.take k ++ (xs.drop h).take k)
  | 0, _, _ => by simp [pfTo]
  | k + 1, hk, hl => by
    have ih := pf_perm xs b h k (by omega) (by omega)
    rw [pfTo, take_next (show k < xs.length by omega), take_next (show k < (xs.drop h).length by rw [List.length_drop]; omega), drop_at]
    have key : (if b = true then [xs.getD (h + k) 0, xs.getD k 0] else [xs.getD k 0, xs.getD (h + k) 0]).Perm ([xs.getD k 0] ++ [xs.getD (h + k) 0]) := by
      cases b
      · exact List.Perm.refl _
      · exact List.Perm.swap _ _ _
    refine (ih.append key).trans ?_
    generalize xs.take k = A
    generalize (xs.drop h).take k = B
    rw [List.append_assoc, List.append_assoc]
    refine List.Perm.append_left A ?_
    rw [← List.append_assoc, ← List.append_assoc]
    exact List.perm_append_comm.append_right _
theorem perf_perm {xs : List Int} (b : Bool) (he : xs.length % 2 = 0) : (perf xs b).Perm xs := by
  unfold perf
  refine (pf_perm xs b _ _ (Nat.le_refl _) (by omega)).trans ?_
  rw [List.take_of_length_le (l := xs.drop _) (by rw [List.length_drop]; omega), List.take_append_drop]
theorem pf_map (xs L : List Int) (b : Bool) (h : Nat) : ∀ k, k ≤ h → h + k ≤ L.length → pfTo (L.map fun v => xs.getD v.toNat 0) b h k = (pfTo L b h k).map fun v => xs.getD v.toNat 0
  | 0, _, _ => rfl
  | k + 1, hk, hl => by
    have e : ∀ i, i < L.length → (L.map fun v => xs.getD v.toNat 0).getD i 0 = xs.getD (L.getD i 0).toNat 0 := fun i hi => by simp [List.getD, hi]
    rw [pfTo, pfTo, pf_map xs L b h k (by omega) (by omega), e k (by omega), e (h + k) (by omega), List.map_append]
    cases b <;> rfl
def pfI (xs : List Int) (b : Bool) : Nat → List Int
  | 0 => xs
  | i + 1 => perf (pfI xs b i) b
theorem news_map (xs : List Int) : (news xs.length).map (fun v => xs.getD v.toNat 0) = xs := by
  refine ext_at (by simp [news]) fun i hi => ?_
  rw [List.length_map, news_len] at hi
  simp [news, List.getD, hi]
theorem pfI_map {xs : List Int} (b : Bool) (he : xs.length % 2 = 0) : ∀ i, pfI xs b i = (pfIter xs.length b i).map fun v => xs.getD v.toNat 0
  | 0 => (news_map xs).symm
  | i + 1 => by
    have hl := pfIter_len xs.length b he i
    rw [pfI, pfI_map b he i, pfIter]
    unfold perf
    rw [List.length_map, pf_map xs _ b _ _ (Nat.le_refl _) (by omega)]
theorem pfIter_perm {n : Nat} (b : Bool) (he : n % 2 = 0) : ∀ i, (pfIter n b i).Perm (news n)
  | 0 => List.Perm.refl _
  | i + 1 => by
    rw [pfIter]
    exact (perf_perm b (by rw [pfIter_len n b he i]; exact he)).trans (pfIter_perm b he i)
theorem pfI_perm {xs : List Int} (b : Bool) (he : xs.length % 2 = 0) : ∀ i, (pfI xs b i).Perm xs
  | 0 => List.Perm.refl _
  | i + 1 => by
    have ih := pfI_perm b he i
    rw [pfI]
    exact (perf_perm b (by rw [ih.length_eq]; exact he)).trans ih
theorem pfI_back {xs : List Int} {b : Bool} (he : xs.length % 2 = 0) {i : Nat} (h : pfIter xs.length b i = news xs.length) : pfI xs b i = xs := by
  rw [pfI_map b he, h, news_map]
theorem pfI_not {xs : List Int} {b : Bool} (hd : ordB xs = true) (he : xs.length % 2 = 0) {i : Nat} (h : pfIter xs.length b i ≠ news xs.length) : pfI xs b i ≠ xs := by
  intro e
  refine h (ext_at (by rw [pfIter_len _ _ he, news_len]) fun k hk => ?_)
  rw [pfIter_len _ _ he] at hk
  have hp := pfIter_perm b he i
  have ho := ord_perm hp (news_ord _)
  have hc := card_nat ho (show k < (pfIter xs.length b i).length by rw [pfIter_len _ _ he]; exact hk)
  rw [pfIter_len _ _ he] at hc
  rw [pfI_map b he] at e
  have e2 : ((pfIter xs.length b i).map fun v => xs.getD v.toNat 0).getD k 0 = xs.getD ((pfIter xs.length b i).getD k 0).toNat 0 := by
    have hk2 : k < (pfIter xs.length b i).length := by rw [pfIter_len _ _ he]; exact hk
    simp [List.getD, hk2]
  rw [e] at e2
  have := ord_inj hd hk (show ((pfIter xs.length b i).getD k 0).toNat < xs.length by omega) e2
  rw [news_at hk]
  omega

/-! ### piles -/
theorem pile_set {l : List (List Int)} {i j : Nat} {a : List Int} (hi : i < l.length) : (l.set i a).getD j [] = if i = j then a else l.getD j [] := by
  by_cases h : i = j
  · subst h; rw [if_pos rfl]; simp [List.getD, hi]
  · rw [if_neg h]; simp [List.getD, List.getElem?_set_ne h]
theorem deal_pile {xs : List Int} {m : Nat} (hm : 0 < m) : ∀ k p, p < m → ((deal xs m k).getD p []).length = (k + m - 1 - p) / m
  | 0, p, hp => by
    rw [show (0 + m - 1 - p) / m = 0 from Nat.div_eq_of_lt (by omega)]
    simp [deal, List.getD, hp]
  | k + 1, p, hp => by
    have ih := deal_pile (xs := xs) hm k p hp
    have hk : k % m < m := Nat.mod_lt _ hm
    have hdm := Nat.div_add_mod k m
    rw [deal, pile_set (by rw [deal_len]; exact hk)]
    by_cases h : k % m = p
    · subst h
      rw [if_pos rfl, List.length_cons, ih]
      have e1 : k + m - 1 - k % m = m * (k / m) + (m - 1) := by omega
      have e2 : k + 1 + m - 1 - k % m = m * (k / m) + m := by omega
      rw [e1, e2, Nat.mul_add_div hm, Nat.mul_add_div hm, Nat.div_eq_of_lt (show m - 1 < m by omega), Nat.div_self hm]
    · rw [if_neg h, ih]
      generalize hq : k / m = q at *
      generalize hr : k % m = r at *
      have hk2 : k = m * q + r := hdm.symm
      rcases Nat.lt_or_ge r p with h1 | h1
      · have e1 : k + m - 1 - p = m * q + (r + m - 1 - p) := by omega
        have e2 : k + 1 + m - 1 - p = m * q + (r + 1 + m - 1 - p) := by omega
        rw [e1, e2, Nat.mul_add_div hm, Nat.mul_add_div hm, Nat.div_eq_of_lt (show r + m - 1 - p < m by omega), Nat.div_eq_of_lt (show r + 1 + m - 1 - p < m by omega)]
      · have e1 : k + m - 1 - p = m * q + (m + (r - 1 - p)) := by omega
        have e2 : k + 1 + m - 1 - p = m * q + (m + (r - p)) := by omega
        rw [e1, e2, Nat.mul_add_div hm, Nat.mul_add_div hm, Nat.add_div_left _ hm, Nat.add_div_left _ hm, Nat.div_eq_of_lt (show r - 1 - p < m by omega), Nat.div_eq_of_lt (show r - p < m by omega)]
theorem deal_put {xs : List Int} {m : Nat} (hm : 0 < m) {i : Nat} : ∀ {k : Nat}, i < k → i / m < ((deal xs m k).getD (i % m) []).length ∧ ((deal xs m k).getD (i % m) []).getD (((deal xs m k).getD (i % m) []).length - 1 - i / m) 0 = xs.getD i 0
  | 0, h => absurd h (Nat.not_lt_zero _)
  | k + 1, h => by
    have hk : k % m < m := Nat.mod_lt _ hm
    rw [deal, pile_set (by rw [deal_len]; exact hk)]
    rcases Nat.lt_succ_iff_lt_or_eq.1 h with h1 | h1
    · obtain ⟨a, b⟩ := deal_put (xs := xs) hm h1
      by_cases e : k % m = i % m
      · rw [if_pos e, e, List.length_cons]
        refine ⟨by omega, ?_⟩
        rw [← b]
        obtain ⟨q, hq⟩ : ∃ q, ((deal xs m k).getD (i % m) []).length + 1 - 1 - i / m = q + 1 := ⟨((deal xs m k).getD (i % m) []).length - 1 - i / m, by omega⟩
        rw [hq, show ((deal xs m k).getD (i % m) []).length - 1 - i / m = q by omega]
        rfl
      · rw [if_neg e]
        exact ⟨a, b⟩
    · subst h1
      rw [if_pos rfl, List.length_cons, deal_pile hm i (i % m) hk]
      have hdm := Nat.div_add_mod i m
      have e1 : (i + m - 1 - i % m) / m = i / m := by
        rw [show i + m - 1 - i % m = m * (i / m) + (m - 1) by omega, Nat.mul_add_div hm, Nat.div_eq_of_lt (show m - 1 < m by omega), Nat.add_zero]
      rw [e1]
      refine ⟨by omega, ?_⟩
      rw [show i / m + 1 - 1 - i / m = 0 by omega]
      rfl
theorem flat_set : ∀ (l : List (List Int)) (i : Nat) (x : Int), i < l.length → ((l.set i (x :: l.getD i [])).flatten).Perm (x :: l.flatten)
  | [], _, _, h => absurd h (Nat.not_lt_zero _)
  | a :: l, 0, x, _ => by
    simp only [List.set_cons_zero, List.flatten_cons]
    exact List.Perm.refl _
  | a :: l, i + 1, x, h => by
    have ih := flat_set l i x (by simpa using h)
    simp only [List.set_cons_succ, List.flatten_cons, show (a :: l).getD (i + 1) [] = l.getD i [] from rfl]
    exact (List.Perm.append_left a ih).trans List.perm_middle
theorem deal_flat {xs : List Int} {m : Nat} (hm : 0 < m) : ∀ k, k ≤ xs.length → ((deal xs m k).flatten).Perm (xs.take k)
  | 0, _ => by
    have : ∀ m, (List.replicate m ([] : List Int)).flatten = [] := fun m => by simp
    rw [deal, this]
    simp
  | k + 1, hk => by
    have ih := deal_flat (xs := xs) hm k (by omega)
    rw [deal, take_next (show k < xs.length by omega)]
    refine (flat_set _ _ _ (by rw [deal_len]; exact Nat.mod_lt _ hm)).trans ?_
    exact (ih.cons _).trans (List.perm_append_singleton _ _).symm
theorem gat_flat (pss : List (List Int)) : ∀ k, k ≤ pss.length → gat pss (news pss.length) k = (pss.take k).flatten
  | 0, _ => by simp [gat]
  | k + 1, hk => by
    rw [gat, gat_flat pss k (by omega), List.take_succ_eq_append_getElem (by omega), List.flatten_append]
    unfold pileAt
    rw [news_at (show k < pss.length by omega), Int.toNat_natCast]
    simp [List.getD, show k < pss.length by omega]
theorem flat_len {l : List (List Int)} {p : List Int} (h : p ∈ l) : p.length ≤ l.flatten.length := by
  induction l with
  | nil => cases h
  | cons a l ih =>
    rw [List.flatten_cons, List.length_append]
    rcases List.mem_cons.1 h with rfl | h
    · omega
    · have := ih h; omega
theorem gather_ok {xs : List Int} {m : Nat} (hd : deckB xs = true) (h1 : 1 ≤ m) (h8 : m ≤ 8) : gatOk (deal xs m xs.length) (news m) = true ∧ (gatOut (deal xs m xs.length) (news m)).length = xs.length := by
  have hl := deal_len xs m xs.length
  have hf := deal_flat (xs := xs) (show 0 < m by omega) xs.length (Nat.le_refl _)
  rw [List.take_length] at hf
  have hg : gat (deal xs m xs.length) (news m) m = (deal xs m xs.length).flatten := by
    have := gat_flat (deal xs m xs.length) m (by omega)
    rw [hl] at this
    rw [this, List.take_of_length_le (by omega)]
  have h52 := (deck_len hd).2
  have hk : gatOk (deal xs m xs.length) (news m) = true := by
    unfold gatOk gatP
    rw [hl, decide_eq_true (show 1 ≤ m ∧ m ≤ 8 from ⟨h1, h8⟩), news_len, decide_eq_true rfl, news_ord, hg, deck_perm hf hd]
    simp only [Bool.true_and, Bool.and_true]
    rw [List.all_eq_true]
    intro j hj
    rw [List.mem_range] at hj
    unfold goodG pileAt
    rw [news_at hj, Int.toNat_natCast]
    refine decide_eq_true ?_
    have hm : (deal xs m xs.length).getD j [] ∈ deal xs m xs.length := by
      have : (deal xs m xs.length).getD j [] = (deal xs m xs.length)[j] := by simp [List.getD, show j < (deal xs m xs.length).length by omega]
      rw [this]
      exact List.getElem_mem _
    have := flat_len hm
    rw [hf.length_eq] at this
    omega
  refine ⟨hk, ?_⟩
  unfold gatOut
  rw [if_pos hk, news_len, hg, hf.length_eq]

/-! ### how often -/
def ordChk (n : Nat) (b : Bool) : Bool := decide (1 ≤ ordOut n b ∧ ordOut n b ≤ n) && (backAt n b (ordOut n b) && (List.range (ordOut n b)).all fun i => i == 0 || !backAt n b i)
theorem ord_all : ∀ m : Fin 12, ordChk (2 * (1 + m)) false = true ∧ ordChk (2 * (1 + m)) true = true := by decide +kernel
end Go.Proofs.Ytfncmgaeecjacaa.deck
