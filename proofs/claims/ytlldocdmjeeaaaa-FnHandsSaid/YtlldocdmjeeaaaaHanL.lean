/-
  Values do not mind the order of cards nor suits exchanged, in numbers alone. Conditions: those of each theorem.
-/
import Derived.Test.YtlldocdmjeeaaaaFaceI
import Derived.Test.YtlldocdmjeeaaaaOuts
import Derived.Test.YtlldocdmjeeaaaaBshare
import Derived.Test.YtlldocdmjeeaaaaCmp
namespace Go.Proofs.Ytlldocdmjeeaaaa.hand
open Go.RowKit
open base mem grid deck

/-! ### the value of five cards -/
theorem cntN_perm {xs ys : List Int} (h : xs.Perm ys) : cntN xs = cntN ys := by
  unfold cntN
  exact List.map_congr_left fun r _ => h.countP_eq _
theorem suitB_iff (xs : List Int) : suitB xs = true ↔ ∀ x ∈ xs, ∀ y ∈ xs, x / 13 = y / 13 := by
  cases xs with
  | nil => simp [suitB]
  | cons a l =>
    unfold suitB
    rw [List.all_eq_true]
    have e : (a :: l).getD 0 0 = a := rfl
    rw [e]
    constructor
    · intro h x hx y hy
      have h1 := h x hx
      have h2 := h y hy
      simp only [beq_iff_eq] at h1 h2
      rw [h1, h2]
    · intro h x hx
      simp only [beq_iff_eq]
      exact h x hx a (by simp)
theorem suitB_perm {xs ys : List Int} (h : xs.Perm ys) : suitB xs = suitB ys := by
  rw [Bool.eq_iff_iff, suitB_iff, suitB_iff]
  constructor
  · intro g x hx y hy
    exact g x (h.mem_iff.2 hx) y (h.mem_iff.2 hy)
  · intro g x hx y hy
    exact g x (h.mem_iff.1 hx) y (h.mem_iff.1 hy)
theorem valL_perm {xs ys : List Int} (h : xs.Perm ys) : valL xs = valL ys := by
  unfold valL kindL
  rw [cntN_perm h, suitB_perm h]
def shS (x : Int) : Int := (x + 13) % 52
theorem sh_mod (x : Int) : shS x % 13 = x % 13 := by unfold shS; omega
theorem sh_div {x y : Int} (hx : 0 ≤ x ∧ x < 52) (hy : 0 ≤ y ∧ y < 52) : shS x / 13 = shS y / 13 ↔ x / 13 = y / 13 := by unfold shS; omega
theorem sh_range (x : Int) : 0 ≤ shS x ∧ shS x < 52 := by unfold shS; omega
theorem sh_inj {x y : Int} (hx : 0 ≤ x ∧ x < 52) (hy : 0 ≤ y ∧ y < 52) (h : shS x = shS y) : x = y := by unfold shS at h; omega
theorem cntN_shift (xs : List Int) : cntN (xs.map shS) = cntN xs := by
  unfold cntN
  refine List.map_congr_left fun r _ => ?_
  rw [List.countP_map]
  congr 1
  funext x
  simp only [Function.comp, sh_mod]
theorem suitB_shift {xs : List Int} (hr : ∀ x ∈ xs, 0 ≤ x ∧ x < 52) : suitB (xs.map shS) = suitB xs := by
  rw [Bool.eq_iff_iff, suitB_iff, suitB_iff]
  constructor
  · intro g x hx y hy
    exact (sh_div (hr x hx) (hr y hy)).1 (g _ (List.mem_map_of_mem hx) _ (List.mem_map_of_mem hy))
  · intro g x hx y hy
    obtain ⟨a, ha, rfl⟩ := List.mem_map.1 hx
    obtain ⟨b, hb, rfl⟩ := List.mem_map.1 hy
    exact (sh_div (hr a ha) (hr b hb)).2 (g a ha b hb)
theorem valL_shift {xs : List Int} (hr : ∀ x ∈ xs, 0 ≤ x ∧ x < 52) : valL (xs.map shS) = valL xs := by
  unfold valL kindL
  rw [cntN_shift, suitB_shift hr]
theorem valL_kind {xs : List Int} (hf : Fine xs) (h5 : xs.length = 5) : (valL xs) / 371293 = kindL xs := by
  have hk := kindL_range xs
  have h2 := rowV_range (cntN xs)
  unfold valL
  by_cases h : 0 ≤ rowV (cntN xs)
  · rw [if_pos h]; omega
  · rw [if_neg h, foldV_add]
    have := foldV_bound (ordN (cntN xs)) 0 (by omega) 0 (by omega) (ordN_lt _)
    rw [ordN_len hf.1 hf.2, h5] at this ⊢
    have e : (0 + 1 : Int) * 13 ^ 5 = 371293 := by decide
    have e2 : (13 : Int) ^ 5 = 371293 := by decide
    rw [e] at this
    rw [e2]
    omega

/-! ### the best five -/
theorem pk_ge : ∀ (l : List Int) (k : Nat) (pre : List Int) (st : List Int × Int) (v : Int), v ≤ (pk k pre l st).2 ↔ v ≤ st.2 ∨ ∃ s, s.Sublist l ∧ s.length = k ∧ v ≤ valL (pre ++ s)
  | l, 0, pre, st, v => by
    rw [pk_zero]
    have h1 : v ≤ (upd st pre).2 ↔ v ≤ st.2 ∨ v ≤ valL pre := by
      unfold upd
      by_cases h : st.2 < valL pre
      · rw [if_pos h]
        simp only
        omega
      · rw [if_neg h]
        omega
    rw [h1]
    constructor
    · rintro (h | h)
      · exact .inl h
      · exact .inr ⟨[], List.nil_sublist _, rfl, by simpa using h⟩
    · rintro (h | ⟨s, _, h0, h⟩)
      · exact .inl h
      · obtain rfl := List.eq_nil_of_length_eq_zero h0
        exact .inr (by simpa using h)
  | [], k + 1, pre, st, v => by
    rw [pk_nil]
    constructor
    · exact .inl
    · rintro (h | ⟨s, hs, h0, h⟩)
      · exact h
      · have := hs.length_le
        rw [h0] at this
        exact absurd this (Nat.not_succ_le_zero k)
  | x :: l, k + 1, pre, st, v => by
    have e : pk (k + 1) pre (x :: l) st = pk (k + 1) pre l (pk k (pre ++ [x]) l st) := rfl
    rw [e, pk_ge l (k + 1) pre _ v, pk_ge l k (pre ++ [x]) st v]
    constructor
    · rintro ((h | ⟨s, hs, h0, h⟩) | ⟨s, hs, h0, h⟩)
      · exact .inl h
      · exact .inr ⟨x :: s, hs.cons_cons x, by simp [h0], by rw [List.append_assoc] at h; exact h⟩
      · exact .inr ⟨s, hs.cons x, h0, h⟩
    · rintro (h | ⟨s, hs, h0, h⟩)
      · exact .inl (.inl h)
      · rcases List.sublist_cons_iff.1 hs with hs2 | ⟨r, rfl, hs2⟩
        · exact .inr ⟨s, hs2, h0, h⟩
        · exact .inl (.inr ⟨r, hs2, by simpa using h0, by rw [List.append_assoc]; exact h⟩)
theorem best_ge (xs : List Int) (v : Int) : v ≤ (bestL xs).2 ↔ v ≤ -1 ∨ ∃ s, s.Sublist xs ∧ s.length = 5 ∧ v ≤ valL s := by
  unfold bestL
  rw [pk_ge]
  simp
theorem eq_of_ge {a b : Int} (h : ∀ v, v ≤ a ↔ v ≤ b) : a = b := by
  have h1 := (h a).1 (Int.le_refl _)
  have h2 := (h b).2 (Int.le_refl _)
  omega
theorem best_rev (xs : List Int) : (bestL xs.reverse).2 = (bestL xs).2 := by
  refine eq_of_ge fun v => ?_
  rw [best_ge, best_ge]
  have key : ∀ ys : List Int, (∃ s, s.Sublist ys.reverse ∧ s.length = 5 ∧ v ≤ valL s) → ∃ s, s.Sublist ys ∧ s.length = 5 ∧ v ≤ valL s := by
    rintro ys ⟨s, hs, h5, hv⟩
    refine ⟨s.reverse, ?_, by simp [h5], by rw [valL_perm (List.reverse_perm s)]; exact hv⟩
    have := hs.reverse
    rwa [List.reverse_reverse] at this
  constructor
  · rintro (h | h)
    · exact .inl h
    · exact .inr (key xs h)
  · rintro (h | h)
    · exact .inl h
    · exact .inr (key xs.reverse (by rwa [List.reverse_reverse]))
theorem best_shift {xs : List Int} (hr : ∀ x ∈ xs, 0 ≤ x ∧ x < 52) : (bestL (xs.map shS)).2 = (bestL xs).2 := by
  refine eq_of_ge fun v => ?_
  rw [best_ge, best_ge]
  constructor
  · rintro (h | ⟨s, hs, h5, hv⟩)
    · exact .inl h
    · obtain ⟨t, ht, rfl⟩ := List.sublist_map_iff.1 hs
      exact .inr ⟨t, ht, by simpa using h5, by rwa [valL_shift fun x hx => hr x (ht.subset hx)] at hv⟩
  · rintro (h | ⟨s, hs, h5, hv⟩)
    · exact .inl h
    · exact .inr ⟨s.map shS, hs.map shS, by simpa using h5, by rwa [valL_shift fun x hx => hr x (hs.subset hx)]⟩
theorem pk_sub : ∀ (l : List Int) (k : Nat) (pre : List Int) (st : List Int × Int) (U : List Int), (∀ x ∈ st.1, x ∈ U) → (∀ x ∈ pre, x ∈ U) → (∀ x ∈ l, x ∈ U) → ∀ x ∈ (pk k pre l st).1, x ∈ U
  | l, 0, pre, st, U, h1, h2, h3 => by
    rw [pk_zero]
    unfold upd
    split
    · exact h2
    · exact h1
  | [], k + 1, pre, st, U, h1, h2, h3 => h1
  | x :: l, k + 1, pre, st, U, h1, h2, h3 => by
    have e : pk (k + 1) pre (x :: l) st = pk (k + 1) pre l (pk k (pre ++ [x]) l st) := rfl
    rw [e]
    refine pk_sub l (k + 1) pre _ U (pk_sub l k (pre ++ [x]) st U h1 ?_ (fun y hy => h3 y (by simp [hy]))) h2 (fun y hy => h3 y (by simp [hy]))
    intro y hy
    rcases List.mem_append.1 hy with hy | hy
    · exact h2 y hy
    · simp at hy
      exact h3 y (by simp [hy])
theorem best_sub (xs : List Int) : ∀ x ∈ (bestL xs).1, x ∈ xs := pk_sub xs 5 [] ([], -1) xs (fun x hx => by cases hx) (fun x hx => by cases hx) fun x hx => hx
theorem best_first {xs : List Int} (h5 : 5 ≤ xs.length) : valL (xs.take 5) ≤ (bestL xs).2 :=
  (best_ge xs _).2 (.inr ⟨xs.take 5, List.take_sublist 5 xs, by rw [List.length_take]; omega, Int.le_refl _⟩)
theorem fine_rev {xs : List Int} (h : Fine xs) : Fine xs.reverse := ⟨(List.reverse_perm xs).nodup_iff.2 h.1, fun x hx => h.2 x (by simpa using hx)⟩
theorem fine_shift {xs : List Int} (h : Fine xs) : Fine (xs.map shS) := by
  refine ⟨?_, fun x hx => ?_⟩
  · rw [List.nodup_iff_pairwise_ne, List.pairwise_map]
    have hp := List.nodup_iff_pairwise_ne.1 h.1
    exact List.Pairwise.imp_of_mem (fun {a b} ha hb hne he => hne (sh_inj (h.2 a ha) (h.2 b hb) he)) hp
  · obtain ⟨y, _, rfl⟩ := List.mem_map.1 hx
    exact sh_range y
theorem fine_cards {xs : List Int} (h : Fine xs) : cardsB xs = true := by
  refine cards_yes fun j hj => ?_
  have e : xs.getD j 0 = xs[j] := by simp [List.getD, hj]
  have hr := h.2 _ (List.getElem_mem hj)
  unfold goodC
  rw [e, Bool.and_eq_true]
  refine ⟨inB_mk (by omega) (by omega), ?_⟩
  rw [Bool.not_eq_true']
  refine decide_eq_false fun hm => ?_
  obtain ⟨i, hi, he⟩ := List.mem_iff_getElem.1 hm
  rw [List.length_take] at hi
  rw [List.getElem_take] at he
  have hp := List.pairwise_iff_getElem.1 (List.nodup_iff_pairwise_ne.1 h.1) i j (by omega) hj (by omega)
  exact hp he
theorem fine_hand {xs : List Int} (h : Fine xs) {lo hi : Nat} (h1 : lo ≤ xs.length) (h2 : xs.length ≤ hi) : handB xs lo hi = true := by
  unfold handB
  rw [fine_cards h, Bool.and_true]
  exact decide_eq_true ⟨h1, h2⟩

/-! ### suits exchanged -/
def rotO (o : List Int) : List Int := [o.getD 1 0, o.getD 2 0, o.getD 3 0, o.getD 0 0]
theorem fcard_shift {o : List Int} {c : Int} (hc : 0 ≤ c ∧ c < 52) : fcard o (shS c) = fcard (rotO o) c := by
  unfold fcard
  rw [sh_mod]
  have hd : (c / 13).toNat = 0 ∨ (c / 13).toNat = 1 ∨ (c / 13).toNat = 2 ∨ (c / 13).toNat = 3 := by omega
  have hs : (shS c / 13).toNat = ((c / 13).toNat + 1) % 4 := by unfold shS; omega
  rw [hs]
  rcases hd with h | h | h | h
  all_goals rw [h]; rfl
theorem faceOn_shift {o cards : List Int} (hr : ∀ x ∈ cards, 0 ≤ x ∧ x < 52) : faceOn o (cards.map shS) = faceOn (rotO o) cards := by
  unfold faceOn
  rw [List.map_map]
  congr 1
  exact List.map_congr_left fun x hx => fcard_shift (hr x hx)
theorem rot_in : ∀ o ∈ ords24, rotO o ∈ ords24 := by decide +kernel
theorem rot_back : ∀ o ∈ ords24, ∃ p ∈ ords24, rotO p = o := by decide +kernel
theorem face_shift {cards : List Int} (h : Fine cards) (h0 : 0 < cards.length) : faceM ords24 (cards.map shS) = faceM ords24 cards := by
  unfold faceM
  refine minL_same (n := cards.length) h0 (by simpa using ords24_ne) (fun l hl => ?_) (fun l => ?_)
  · obtain ⟨o, _, rfl⟩ := List.mem_map.1 hl
    rw [faceOn_len]
    simp
  · simp only [List.mem_map]
    constructor
    · rintro ⟨o, ho, rfl⟩
      exact ⟨rotO o, rot_in o ho, (faceOn_shift h.2).symm⟩
    · rintro ⟨o, ho, rfl⟩
      obtain ⟨p, hp, rfl⟩ := rot_back o ho
      exact ⟨p, hp, faceOn_shift h.2⟩

/-! ### what helps -/
theorem nums_mem {c : Nat} (h : c < 52) : (c : Int) ∈ nums52 := by
  unfold nums52
  exact List.mem_map.2 ⟨c, List.mem_range.2 h, rfl⟩
theorem outs_known {xs : List Int} {v : Int} {c : Int} (h : hasB xs c = true) : hasB (outsL xs v) c = false := by
  refine decide_eq_false fun hm => ?_
  unfold outsL at hm
  rw [List.mem_filter, h] at hm
  simp at hm
theorem outs_new {xs : List Int} {v : Int} {c : Nat} (hc : c < 52) (h : hasB xs (c : Int) = false) : hasB (outsL xs v) (c : Int) = decide (v ≤ bestV xs (c : Int)) := by
  have e : hasB (outsL xs v) (c : Int) = true ↔ (c : Int) ∈ outsL xs v := decide_eq_true_iff
  rw [Bool.eq_iff_iff, e, decide_eq_true_eq]
  unfold outsL
  rw [List.mem_filter, h]
  simp [nums_mem hc]

end Go.Proofs.Ytlldocdmjeeaaaa.hand
