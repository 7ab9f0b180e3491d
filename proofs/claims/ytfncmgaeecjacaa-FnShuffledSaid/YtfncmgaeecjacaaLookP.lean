/-
  The kind and the value of five cards, in numbers alone. Conditions: those of each theorem.
-/
import Derived.Test.YtfncmgaeecjacaaHand
namespace Go.Proofs.Ytfncmgaeecjacaa.hand
open Go.RowKit
open base mem

def rowAt (c : List Nat) (h : Nat) : Bool := (List.range 5).all fun k => c.getD ((h + 13 - k) % 13) 0 == 1
def rowF (c : List Nat) : Nat → Int
  | 0 => -1
  | n + 1 => if rowAt c (n + 3) = true then ((n + 3 : Nat) : Int) else rowF c n
def rowV (c : List Nat) : Int := rowF c 10
/-- ranks below R of which there are n, the greatest first, n times each -/
def ordR (c : List Nat) (n : Nat) : Nat → List Nat
  | 0 => []
  | R + 1 => if c.getD R 0 = n then List.replicate n R ++ ordR c n R else ordR c n R
def ordS (c : List Nat) : Nat → List Nat
  | 0 => []
  | n + 1 => ordR c (n + 1) 13 ++ ordS c n
def manR (c : List Nat) (n : Nat) : Nat → List Nat
  | 0 => []
  | R + 1 => if c.getD R 0 = n then n :: manR c n R else manR c n R
def manS (c : List Nat) : Nat → List Nat
  | 0 => []
  | n + 1 => manR c (n + 1) 13 ++ manS c n
def ordN (c : List Nat) : List Nat := ordS c 4
def manN (c : List Nat) : List Nat := manS c 4
def manyI (c : List Nat) (k : Nat) : Nat := c.countP (· == k)
def kindS (one : Bool) (c : List Nat) : Nat :=
  if one = true ∧ 0 ≤ rowV c then 8 else if (manN c).getD 0 0 = 4 then 7 else if (manN c).getD 0 0 = 3 ∧ (manN c).getD 1 0 = 2 then 6 else if one = true then 5
  else if 0 ≤ rowV c then 4 else if (manN c).getD 0 0 = 3 then 3 else if (manN c).getD 0 0 = 2 ∧ (manN c).getD 1 0 = 2 then 2 else if (manN c).getD 0 0 = 2 then 1 else 0
def kindI (one : Bool) (c : List Nat) : Nat :=
  if one = true ∧ 0 ≤ rowV c then 8 else if manyI c 4 = 1 then 7 else if manyI c 3 = 1 ∧ manyI c 2 = 1 then 6 else if one = true then 5
  else if 0 ≤ rowV c then 4 else if manyI c 3 = 1 then 3 else if manyI c 2 = 2 then 2 else if manyI c 2 = 1 then 1 else 0

theorem manR_rep (c : List Nat) (n R : Nat) (hR : R ≤ c.length) : manR c n R = List.replicate ((c.take R).countP (· == n)) n := by
  induction R with
  | zero => simp [manR]
  | succ R ih =>
    have hx : R < c.length := by omega
    have hg : c.getD R 0 = c[R] := by simp [List.getD, hx]
    rw [List.take_succ_eq_append_getElem hx, List.countP_append, manR, ih (by omega), hg]
    by_cases h : c[R] = n
    · simp [h, List.replicate_succ]
    · simp [h]
theorem manN_rep (c : List Nat) (hc : c.length = 13) : manN c = List.replicate (manyI c 4) 4 ++ (List.replicate (manyI c 3) 3 ++ (List.replicate (manyI c 2) 2 ++ List.replicate (manyI c 1) 1)) := by
  have h : ∀ n, manR c n 13 = List.replicate (manyI c n) n := fun n => by
    rw [manR_rep c n 13 (by omega), List.take_of_length_le (by omega)]; rfl
  simp only [manN, manS, h, List.append_nil]
theorem sum_many (c : List Nat) (h4 : ∀ a ∈ c, a ≤ 4) : c.sum = 4 * manyI c 4 + 3 * manyI c 3 + 2 * manyI c 2 + manyI c 1 := by
  induction c with
  | nil => rfl
  | cons a l ih =>
    have ih' := ih (fun b hb => h4 b (by simp [hb]))
    have ha := h4 a (by simp)
    unfold manyI at ih' ⊢
    rw [List.sum_cons, ih']
    simp only [List.countP_cons]
    obtain rfl | rfl | rfl | rfl | rfl : a = 0 ∨ a = 1 ∨ a = 2 ∨ a = 3 ∨ a = 4 := by omega
    all_goals simp <;> omega
/-- the ways in which five cards part -/
theorem many_ways (c : List Nat) (h13 : c.length = 13) (h4 : ∀ a ∈ c, a ≤ 4) (h5 : c.sum = 5) :
    (manyI c 4 = 1 ∧ manyI c 3 = 0 ∧ manyI c 2 = 0 ∧ manN c = [4, 1]) ∨ (manyI c 4 = 0 ∧ manyI c 3 = 1 ∧ manyI c 2 = 1 ∧ manN c = [3, 2]) ∨ (manyI c 4 = 0 ∧ manyI c 3 = 1 ∧ manyI c 2 = 0 ∧ manN c = [3, 1, 1]) ∨
    (manyI c 4 = 0 ∧ manyI c 3 = 0 ∧ manyI c 2 = 2 ∧ manN c = [2, 2, 1]) ∨ (manyI c 4 = 0 ∧ manyI c 3 = 0 ∧ manyI c 2 = 1 ∧ manN c = [2, 1, 1, 1]) ∨ (manyI c 4 = 0 ∧ manyI c 3 = 0 ∧ manyI c 2 = 0 ∧ manN c = [1, 1, 1, 1, 1]) := by
  have hs := sum_many c h4
  rw [h5] at hs
  rw [manN_rep c h13]
  generalize manyI c 4 = a at *
  generalize manyI c 3 = b at *
  generalize manyI c 2 = d at *
  generalize manyI c 1 = e at *
  have : (a = 1 ∧ b = 0 ∧ d = 0 ∧ e = 1) ∨ (a = 0 ∧ b = 1 ∧ d = 1 ∧ e = 0) ∨ (a = 0 ∧ b = 1 ∧ d = 0 ∧ e = 2) ∨ (a = 0 ∧ b = 0 ∧ d = 2 ∧ e = 1) ∨ (a = 0 ∧ b = 0 ∧ d = 1 ∧ e = 3) ∨ (a = 0 ∧ b = 0 ∧ d = 0 ∧ e = 5) := by
    obtain rfl | rfl : a = 0 ∨ a = 1 := by omega
    · obtain rfl | rfl : b = 0 ∨ b = 1 := by omega
      · obtain rfl | rfl | rfl : d = 0 ∨ d = 1 ∨ d = 2 := by omega
        all_goals omega
      · obtain rfl | rfl : d = 0 ∨ d = 1 := by omega
        all_goals omega
    · omega
  rcases this with ⟨rfl, rfl, rfl, rfl⟩ | ⟨rfl, rfl, rfl, rfl⟩ | ⟨rfl, rfl, rfl, rfl⟩ | ⟨rfl, rfl, rfl, rfl⟩ | ⟨rfl, rfl, rfl, rfl⟩ | ⟨rfl, rfl, rfl, rfl⟩
  all_goals decide
theorem kind_eq (one : Bool) (c : List Nat) (h13 : c.length = 13) (h4 : ∀ a ∈ c, a ≤ 4) (h5 : c.sum = 5) : kindI one c = kindS one c := by
  unfold kindI kindS
  rcases many_ways c h13 h4 h5 with ⟨e4, e3, e2, em⟩ | ⟨e4, e3, e2, em⟩ | ⟨e4, e3, e2, em⟩ | ⟨e4, e3, e2, em⟩ | ⟨e4, e3, e2, em⟩ | ⟨e4, e3, e2, em⟩
  all_goals rw [e4, e3, e2, em]
  all_goals simp
theorem many_two (c : List Nat) (h13 : c.length = 13) (h4 : ∀ a ∈ c, a ≤ 4) (h5 : c.sum = 5) : 2 ≤ (manN c).length := by
  rcases many_ways c h13 h4 h5 with ⟨_, _, _, em⟩ | ⟨_, _, _, em⟩ | ⟨_, _, _, em⟩ | ⟨_, _, _, em⟩ | ⟨_, _, _, em⟩ | ⟨_, _, _, em⟩
  all_goals rw [em]; decide
theorem count_row (c : List Nat) (h13 : c.length = 13) (h : Nat) (hh : h < 10) (hr : rowAt c (h + 3) = true) : 5 ≤ manyI c 1 := by
  match c, h13 with
  | [c0, c1, c2, c3, c4, c5, c6, c7, c8, c9, c10, c11, c12], _ =>
    unfold manyI
    obtain rfl | rfl | rfl | rfl | rfl | rfl | rfl | rfl | rfl | rfl : h = 0 ∨ h = 1 ∨ h = 2 ∨ h = 3 ∨ h = 4 ∨ h = 5 ∨ h = 6 ∨ h = 7 ∨ h = 8 ∨ h = 9 := by omega
    all_goals
      simp only [rowAt, show List.range 5 = [0, 1, 2, 3, 4] from rfl, List.all_cons, List.all_nil, Bool.and_true, Bool.and_eq_true, beq_iff_eq] at hr
      simp at hr
      simp [List.countP_cons, hr] <;> omega
theorem rowF_pos (c : List Nat) : ∀ n, n ≤ 10 → 0 ≤ rowF c n → ∃ h, h < 10 ∧ rowAt c (h + 3) = true ∧ rowF c n = ((h + 3 : Nat) : Int)
  | 0, _, h => by simp [rowF] at h
  | n + 1, hn, h => by
    unfold rowF at h ⊢
    by_cases hr : rowAt c (n + 3) = true
    · rw [if_pos hr]; exact ⟨n, by omega, hr, rfl⟩
    · rw [if_neg hr] at h ⊢
      exact rowF_pos c n (by omega) h
theorem row_ones (c : List Nat) (h13 : c.length = 13) (h4 : ∀ a ∈ c, a ≤ 4) (h5 : c.sum = 5) (h : 0 ≤ rowV c) : manN c = [1, 1, 1, 1, 1] := by
  obtain ⟨k, hk, hr, _⟩ := rowF_pos c 10 (Nat.le_refl _) h
  have h1 := count_row c h13 k hk hr
  have hs := sum_many c h4
  rw [h5] at hs
  rcases many_ways c h13 h4 h5 with ⟨_, _, _, em⟩ | ⟨_, _, _, em⟩ | ⟨_, _, _, em⟩ | ⟨_, _, _, em⟩ | ⟨_, _, _, em⟩ | ⟨_, _, _, em⟩
  all_goals first | exact em | omega
theorem rowV_range (c : List Nat) : rowV c = -1 ∨ (3 ≤ rowV c ∧ rowV c ≤ 12) := by
  have : ∀ n, n ≤ 10 → rowF c n = -1 ∨ (3 ≤ rowF c n ∧ rowF c n ≤ 12) := by
    intro n
    induction n with
    | zero => intro _; left; rfl
    | succ n ih =>
      intro hn
      unfold rowF
      by_cases hr : rowAt c (n + 3) = true
      · rw [if_pos hr]; right; omega
      · rw [if_neg hr]; exact ih (by omega)
  exact this 10 (Nat.le_refl _)
/-! the order of the ranks -/
theorem count_ordR (c : List Nat) (n R r : Nat) : (ordR c n R).count r = if r < R ∧ c.getD r 0 = n then n else 0 := by
  induction R with
  | zero => simp [ordR]
  | succ R ih =>
    unfold ordR
    by_cases h : c.getD R 0 = n
    · rw [if_pos h, List.count_append, ih, List.count_replicate]
      by_cases hr : R = r
      · subst hr
        have e1 : ¬ (R < R ∧ c.getD R 0 = n) := fun e => absurd e.1 (Nat.lt_irrefl _)
        have e2 : R < R + 1 ∧ c.getD R 0 = n := ⟨Nat.lt_succ_self _, h⟩
        simp only [if_neg e1, if_pos e2]; simp
      · have : (r < R ∧ c.getD r 0 = n) ↔ (r < R + 1 ∧ c.getD r 0 = n) := by constructor <;> (rintro ⟨a, b⟩; exact ⟨by omega, b⟩)
        simp only [this]
        simp [hr]
    · rw [if_neg h, ih]
      by_cases hr : R = r
      · subst hr; rw [if_neg (fun e => absurd e.1 (Nat.lt_irrefl _)), if_neg (fun e => h e.2)]
      · have : (r < R ∧ c.getD r 0 = n) ↔ (r < R + 1 ∧ c.getD r 0 = n) := by constructor <;> (rintro ⟨a, b⟩; exact ⟨by omega, b⟩)
        simp only [this]
theorem count_ordN (c : List Nat) (h4 : ∀ r, c.getD r 0 ≤ 4) (r : Nat) : (ordN c).count r = if r < 13 then c.getD r 0 else 0 := by
  simp only [ordN, ordS, List.count_append, count_ordR, List.count_nil]
  have := h4 r
  by_cases hr : r < 13
  · simp only [hr, true_and, if_true]
    obtain h | h | h | h | h : c.getD r 0 = 0 ∨ c.getD r 0 = 1 ∨ c.getD r 0 = 2 ∨ c.getD r 0 = 3 ∨ c.getD r 0 = 4 := by omega
    all_goals rw [h]; simp
  · simp [hr]
def bef (c : List Nat) (a b : Nat) : Prop := c.getD b 0 < c.getD a 0 ∨ (c.getD a 0 = c.getD b 0 ∧ b ≤ a)
theorem ordR_mem (c : List Nat) (n R : Nat) : ∀ r ∈ ordR c n R, r < R ∧ c.getD r 0 = n := by
  intro r hr
  have := List.count_pos_iff.2 hr
  rw [count_ordR] at this
  by_cases h : r < R ∧ c.getD r 0 = n
  · exact h
  · rw [if_neg h] at this; omega
theorem ordR_sorted (c : List Nat) (n R : Nat) : (ordR c n R).Pairwise (bef c) := by
  induction R with
  | zero => exact List.Pairwise.nil
  | succ R ih =>
    unfold ordR
    by_cases h : c.getD R 0 = n
    · rw [if_pos h, List.pairwise_append]
      refine ⟨List.pairwise_replicate.2 (Or.inr (Or.inr ⟨rfl, Nat.le_refl _⟩)), ih, ?_⟩
      intro a ha b hb
      obtain ⟨_, rfl⟩ := List.mem_replicate.1 ha
      have := ordR_mem c n a b hb
      exact .inr ⟨by omega, by omega⟩
    · rw [if_neg h]; exact ih
theorem ordS_mem (c : List Nat) (n : Nat) : ∀ r ∈ ordS c n, r < 13 ∧ c.getD r 0 ≤ n := by
  induction n with
  | zero => intro r hr; simp [ordS] at hr
  | succ n ih =>
    intro r hr
    unfold ordS at hr
    rcases List.mem_append.1 hr with h | h
    · have := ordR_mem c (n + 1) 13 r h; omega
    · have := ih r h; omega
theorem ordS_sorted (c : List Nat) (n : Nat) : (ordS c n).Pairwise (bef c) := by
  induction n with
  | zero => exact List.Pairwise.nil
  | succ n ih =>
    unfold ordS
    rw [List.pairwise_append]
    refine ⟨ordR_sorted c _ _, ih, ?_⟩
    intro a ha b hb
    have h1 := ordR_mem c _ _ a ha
    have h2 := ordS_mem c n b hb
    exact .inl (by omega)
theorem ord_unique (c : List Nat) (h4 : ∀ r, c.getD r 0 ≤ 4) (l : List Nat) (hl : ∀ r, l.count r = if r < 13 then c.getD r 0 else 0) (hs : l.Pairwise (bef c)) : l = ordN c := by
  refine List.Perm.eq_of_pairwise (le := bef c) (fun a b _ _ h1 h2 => ?_) hs (ordS_sorted c 4) (List.perm_iff_count.2 fun r => by rw [hl, count_ordN c h4])
  unfold bef at h1 h2
  omega

/-! the counts of cards' ranks -/
def cntN (xs : List Int) : List Nat := (List.range 13).map fun (r : Nat) => xs.countP fun x => x % 13 == (r : Int)
theorem cntN_len (xs : List Int) : (cntN xs).length = 13 := by simp [cntN]
theorem cntN_at (xs : List Int) (r : Nat) : (cntN xs).getD r 0 = if r < 13 then xs.countP (fun x => x % 13 == (r : Int)) else 0 := by
  unfold cntN
  by_cases h : r < 13
  · simp [List.getD, h]
  · simp [List.getD, h]
theorem cntN_snoc (xs : List Int) (x : Int) (r : Nat) (hr : x % 13 = (r : Int)) (h13 : r < 13) : cntN (xs ++ [x]) = (cntN xs).set r ((cntN xs).getD r 0 + 1) := by
  apply List.ext_getElem
  · simp [cntN]
  · intro i h1 h2
    rw [cntN_len] at h1
    have hc := cntN_at xs r
    rw [if_pos h13] at hc
    generalize (cntN xs).getD r 0 = y at *
    subst hc
    rw [List.getElem_set]
    simp only [cntN, List.getElem_map, List.getElem_range, List.countP_append, List.countP_cons, List.countP_nil, hr]
    by_cases h : r = i
    · subst h; simp
    · have : ((r : Int) == (i : Int)) = false := by simp; omega
      simp [h, this]
theorem cntN_nil : cntN [] = List.replicate 13 0 := by decide
theorem cntN_sum : ∀ xs : List Int, (cntN xs).sum = xs.length
  | xs => by
    have key : ∀ n (l : List Int), l.length = n → (cntN l).sum = n := by
      intro n
      induction n with
      | zero => intro l hl; obtain rfl := List.eq_nil_of_length_eq_zero hl; decide
      | succ n ih =>
        intro l hl
        obtain ⟨ys, y, rfl⟩ : ∃ ys y, l = ys ++ [y] := ⟨l.dropLast, l.getLast (by intro h; rw [h] at hl; cases hl), (List.dropLast_concat_getLast _).symm⟩
        have hy := Int.emod_nonneg y (show (13 : Int) ≠ 0 by decide)
        have hy2 := Int.emod_lt_of_pos y (show (0 : Int) < 13 by decide)
        obtain ⟨r, hr⟩ := Int.eq_ofNat_of_zero_le hy
        have h13 : r < 13 := by omega
        rw [cntN_snoc ys y r hr h13]
        have hl2 : ys.length = n := by simpa using hl
        have h := ih ys hl2
        have hset : ∀ (c : List Nat) (k : Nat), k < c.length → (c.set k (c.getD k 0 + 1)).sum = c.sum + 1 := by
          intro c
          induction c with
          | nil => intro k hk; cases hk
          | cons a c ihc =>
            intro k hk
            cases k with
            | zero => simp; omega
            | succ k => have := ihc k (by simpa using hk); simp at this ⊢; omega
        rw [hset _ _ (by rw [cntN_len]; exact h13), h]
    exact key xs.length xs rfl
theorem cnt_four (xs : List Int) (hn : xs.Nodup) (hr : ∀ x ∈ xs, 0 ≤ x ∧ x < 52) (r : Nat) (h13 : r < 13) : xs.countP (fun x => x % 13 == (r : Int)) ≤ 4 := by
  have key : ∀ l : List Int, (∀ x ∈ l, 0 ≤ x ∧ x < 52) → l.countP (fun x => x % 13 == (r : Int)) ≤ l.count (r : Int) + l.count ((r : Int) + 13) + l.count ((r : Int) + 26) + l.count ((r : Int) + 39) := by
    intro l
    induction l with
    | nil => intro _; simp
    | cons a l ih =>
      intro h
      have h1 := ih (fun x hx => h x (by simp [hx]))
      have h2 := h a (by simp)
      simp only [List.countP_cons, List.count_cons]
      by_cases ha : a % 13 = (r : Int)
      · have : a = r ∨ a = r + 13 ∨ a = r + 26 ∨ a = r + 39 := by omega
        rcases this with e | e | e | e
        all_goals
          rw [e] at ha ⊢
          simp [ha] <;> omega
      · simp [ha]; omega
  have h := key xs hr
  have c1 := List.nodup_iff_count.1 hn (r : Int)
  have c2 := List.nodup_iff_count.1 hn ((r : Int) + 13)
  have c3 := List.nodup_iff_count.1 hn ((r : Int) + 26)
  have c4 := List.nodup_iff_count.1 hn ((r : Int) + 39)
  omega
theorem cntN_four (xs : List Int) (hn : xs.Nodup) (hr : ∀ x ∈ xs, 0 ≤ x ∧ x < 52) (r : Nat) : (cntN xs).getD r 0 ≤ 4 := by
  rw [cntN_at]
  by_cases h : r < 13
  · rw [if_pos h]; exact cnt_four xs hn hr r h
  · rw [if_neg h]; omega
theorem cntN_mem (xs : List Int) (hn : xs.Nodup) (hr : ∀ x ∈ xs, 0 ≤ x ∧ x < 52) : ∀ a ∈ cntN xs, a ≤ 4 := by
  intro a ha
  obtain ⟨i, hi, rfl⟩ := List.mem_iff_getElem.1 ha
  have := cntN_four xs hn hr i
  simpa [List.getD, hi] using this
/-- the ranks of cards, as numbers -/
def rankL (xs : List Int) : List Nat := xs.map fun x => (x % 13).toNat
theorem rank_count (xs : List Int) (r : Nat) : (rankL xs).count r = if r < 13 then (cntN xs).getD r 0 else 0 := by
  rw [cntN_at]
  unfold rankL
  rw [List.count_eq_countP, List.countP_map]
  by_cases h : r < 13
  · rw [if_pos h, if_pos h]
    apply List.countP_congr
    intro x _
    have hy := Int.emod_nonneg x (show (13 : Int) ≠ 0 by decide)
    simp only [Function.comp, beq_iff_eq]
    omega
  · rw [if_neg h]
    apply List.countP_eq_zero.2
    intro x _
    have hy2 := Int.emod_lt_of_pos x (show (0 : Int) < 13 by decide)
    simp only [Function.comp, beq_iff_eq]
    omega
/-- one suit -/
def suitB (xs : List Int) : Bool := xs.all fun x => x / 13 == xs.getD 0 0 / 13
def foldV (v : Int) (l : List Nat) : Int := l.foldl (fun v (r : Nat) => 13 * v + r) v
def kindL (xs : List Int) : Int := kindS (suitB xs) (cntN xs)
def valL (xs : List Int) : Int := if 0 ≤ rowV (cntN xs) then kindL xs * 371293 + rowV (cntN xs) * 28561 else foldV (kindL xs) (ordN (cntN xs))
theorem kind_range (one : Bool) (c : List Nat) : kindS one c ≤ 8 := by unfold kindS; repeat' split
                                                                       all_goals omega
theorem kind_row (one : Bool) (c : List Nat) (h13 : c.length = 13) (h4 : ∀ a ∈ c, a ≤ 4) (h5 : c.sum = 5) (h : 0 ≤ rowV c) : kindS one c = if one = true then 8 else 4 := by
  have hm := row_ones c h13 h4 h5 h
  unfold kindS
  rw [hm]
  cases one <;> simp [h]
theorem kind_norow (one : Bool) (c : List Nat) (h : rowV c < 0) : kindS one c ≠ 8 ∧ kindS one c ≠ 4 := by
  unfold kindS
  have : ¬ 0 ≤ rowV c := by omega
  simp only [this, and_false, if_false]
  repeat' split
  all_goals omega
theorem foldV_add (l : List Nat) (v : Int) : foldV v l = v * 13 ^ l.length + foldV 0 l := by
  have key : ∀ (l : List Nat) (v u : Int), foldV (v + u) l = v * 13 ^ l.length + foldV u l := by
    intro l
    induction l with
    | nil => intro v u; simp [foldV]
    | cons a l ih =>
      intro v u
      have h1 : foldV (v + u) (a :: l) = foldV (13 * v + (13 * u + a)) l := by
        show foldV (13 * (v + u) + a) l = _
        rw [show 13 * (v + u) + (a : Int) = 13 * v + (13 * u + a) from by rw [Int.mul_add]; omega]
      have h2 : foldV u (a :: l) = foldV (13 * u + a) l := rfl
      rw [h1, h2, ih, List.length_cons, Int.pow_succ, Int.mul_comm 13 v, Int.mul_assoc, Int.mul_comm 13]
  have := key l v 0
  simpa using this
/-- bounds of a fold -/
theorem foldV_bound (l : List Nat) (v : Int) (hv : 0 ≤ v) (b : Int) (hb : v ≤ b) (hl : ∀ r ∈ l, r < 13) : 0 ≤ foldV v l ∧ foldV v l + 1 ≤ (b + 1) * 13 ^ l.length := by
  induction l generalizing v b with
  | nil => simp [foldV]; omega
  | cons a l ih =>
    have ha := hl a (by simp)
    have h := ih (13 * v + a) (by omega) (13 * b + 12) (by omega) (fun r hr => hl r (by simp [hr]))
    refine ⟨h.1, ?_⟩
    have e : foldV v (a :: l) = foldV (13 * v + a) l := rfl
    rw [e, List.length_cons, Int.pow_succ, Int.mul_comm _ 13, ← Int.mul_assoc]
    have e2 : (13 * b + 12 + 1) = (b + 1) * 13 := by omega
    rw [e2] at h
    exact h.2
/-! what is known of a hand of five -/
theorem ordN_len {xs : List Int} (hn : xs.Nodup) (hr : ∀ x ∈ xs, 0 ≤ x ∧ x < 52) : (ordN (cntN xs)).length = xs.length := by
  have hp : (rankL xs).Perm (ordN (cntN xs)) := List.perm_iff_count.2 fun r => by rw [rank_count, count_ordN _ (cntN_four xs hn hr)]
  rw [← hp.length_eq]
  simp [rankL]
theorem ordN_lt (c : List Nat) : ∀ r ∈ ordN c, r < 13 := fun r h => (ordS_mem c 4 r h).1
theorem valL_eq {xs : List Int} (hn : xs.Nodup) (hr : ∀ x ∈ xs, 0 ≤ x ∧ x < 52) (h5 : xs.length = 5) :
    valL xs = if kindL xs = 4 ∨ kindL xs = 8 then kindL xs * 371293 + rowV (cntN xs) * 28561 else kindL xs * 371293 + foldV 0 (ordN (cntN xs)) := by
  unfold valL
  have c13 := cntN_len xs
  have c4 := cntN_mem xs hn hr
  have c5 := cntN_sum xs
  rw [h5] at c5
  by_cases h : 0 ≤ rowV (cntN xs)
  · have hk := kind_row (suitB xs) _ c13 c4 c5 h
    have : kindL xs = 4 ∨ kindL xs = 8 := by unfold kindL; rw [hk]; cases suitB xs <;> simp
    rw [if_pos h, if_pos this]
  · have hk := kind_norow (suitB xs) (cntN xs) (by omega)
    have : ¬ (kindL xs = 4 ∨ kindL xs = 8) := by unfold kindL; omega
    rw [if_neg h, if_neg this, foldV_add, ordN_len hn hr, h5]
    rfl
theorem kindL_range (xs : List Int) : 0 ≤ kindL xs ∧ kindL xs ≤ 8 := by
  have := kind_range (suitB xs) (cntN xs)
  unfold kindL
  omega
theorem valL_range {xs : List Int} (hn : xs.Nodup) (hr : ∀ x ∈ xs, 0 ≤ x ∧ x < 52) (h5 : xs.length = 5) : 0 ≤ valL xs ∧ valL xs < 3341637 := by
  have hk := kindL_range xs
  have h2 := rowV_range (cntN xs)
  unfold valL
  by_cases h : 0 ≤ rowV (cntN xs)
  · rw [if_pos h]; omega
  · rw [if_neg h]
    have := foldV_bound (ordN (cntN xs)) (kindL xs) hk.1 8 hk.2 (ordN_lt _)
    rw [ordN_len hn hr, h5] at this
    have e : (8 + 1 : Int) * 13 ^ 5 = 3341637 := by decide
    rw [e] at this
    omega

theorem cards_nodup {xs : List Int} (h : cardsB xs = true) : xs.Nodup ∧ ∀ x ∈ xs, 0 ≤ x ∧ x < 52 := by
  have hr : ∀ x ∈ xs, 0 ≤ x ∧ x < 52 := by
    intro x hx
    obtain ⟨k, hk, rfl⟩ := List.mem_iff_getElem.1 hx
    obtain ⟨j, hj, hj2⟩ := card_range h hk
    have : xs.getD k 0 = xs[k] := by simp [List.getD, hk]
    omega
  refine ⟨?_, hr⟩
  rw [List.nodup_iff_pairwise_ne, List.pairwise_iff_getElem]
  intro i j hi hj hij he
  have h1 := cards_at h hj
  unfold goodC at h1
  rw [Bool.and_eq_true] at h1
  have h2 : hasB (xs.take j) (xs.getD j 0) = true := has_yes (j := i) (by rw [List.length_take]; omega) (by simp [List.getD, hi, hj, hij, he])
  rw [h2] at h1
  exact absurd h1.2 (by decide)

end Go.Proofs.Ytfncmgaeecjacaa.hand
