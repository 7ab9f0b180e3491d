/-
  Levels of stakes and the pots between them, in numbers alone. Conditions: those of each theorem.
-/
import Derived.Test.YtlfffkjgepgcfaaStk
import Derived.Test.YtlfffkjgepgcfaaSrt
import Derived.Lib.SlicesCompact
namespace Go.Proofs.Ytlfffkjgepgcfaa.chance
open Go.RowKit
open base mem

/-! ### the levels of stakes, in numbers alone -/
def live (ob : List Bool) (i : Nat) : Bool := !ob.getD i false
def insT (xs : List Int) (ob : List Bool) : Nat → List Int
  | 0 => []
  | k + 1 => if (live ob k && decide (0 < xs.getD k 0)) = true then insT xs ob k ++ [xs.getD k 0] else insT xs ob k
theorem insT_len (xs : List Int) (ob : List Bool) (k : Nat) : (insT xs ob k).length ≤ k := by
  induction k with
  | zero => simp [insT]
  | succ k ih =>
    unfold insT
    split
    · simp; omega
    · omega
theorem insT_mem (xs : List Int) (ob : List Bool) (x : Int) (k : Nat) : x ∈ insT xs ob k ↔ 0 < x ∧ ∃ i, i < k ∧ live ob i = true ∧ xs.getD i 0 = x := by
  induction k with
  | zero => simp [insT]
  | succ k ih =>
    have step : (∃ i, i < k + 1 ∧ live ob i = true ∧ xs.getD i 0 = x) ↔ ((∃ i, i < k ∧ live ob i = true ∧ xs.getD i 0 = x) ∨ (live ob k = true ∧ xs.getD k 0 = x)) := by
      constructor
      · rintro ⟨i, hi, h1, h2⟩
        rcases Nat.lt_succ_iff_lt_or_eq.1 hi with h | h
        · exact .inl ⟨i, h, h1, h2⟩
        · subst h; exact .inr ⟨h1, h2⟩
      · rintro (⟨i, hi, h1, h2⟩ | ⟨h1, h2⟩)
        · exact ⟨i, by omega, h1, h2⟩
        · exact ⟨k, by omega, h1, h2⟩
    unfold insT
    by_cases h : (live ob k && decide (0 < xs.getD k 0)) = true
    · rw [if_pos h, List.mem_append, ih, step]
      rw [Bool.and_eq_true, decide_eq_true_iff] at h
      simp only [List.mem_singleton]
      constructor
      · rintro (⟨h0, h1⟩ | h1)
        · exact ⟨h0, .inl h1⟩
        · subst h1; exact ⟨h.2, .inr ⟨h.1, rfl⟩⟩
      · rintro ⟨h0, h1 | h1⟩
        · exact .inl ⟨h0, h1⟩
        · exact .inr h1.2.symm
    · rw [if_neg h, ih, step]
      rw [Bool.and_eq_true, decide_eq_true_iff] at h
      constructor
      · rintro ⟨h0, h1⟩; exact ⟨h0, .inl h1⟩
      · rintro ⟨h0, h1 | h1⟩
        · exact ⟨h0, h1⟩
        · exact absurd ⟨h1.1, by rw [h1.2]; exact h0⟩ h
theorem comp_facts (d : Array Int) (hs : ∀ i j, i ≤ j → j < d.size → d[i]! ≤ d[j]!) : ∀ m, m ≤ d.size →
    (Lib.compactUpTo d m).Pairwise (· < ·) ∧ ∀ x, x ∈ Lib.compactUpTo d m ↔ ∃ i, i < m ∧ d[i]! = x := by
  intro m
  induction m with
  | zero => intro _; exact ⟨by simp [Lib.compactUpTo], by simp [Lib.compactUpTo]⟩
  | succ m ih =>
    intro hm
    obtain ⟨h1, h2⟩ := ih (by omega)
    rw [Lib.compactUpTo_succ]
    by_cases hk : Lib.keeps d m = true
    · rw [if_pos hk]
      have hkk : m = 0 ∨ d[m]! ≠ d[m - 1]! := by simpa [Lib.keeps] using hk
      refine ⟨?_, fun x => ?_⟩
      · rw [List.pairwise_append]
        refine ⟨h1, by simp, fun a ha b hb => ?_⟩
        simp only [List.mem_singleton] at hb
        subst hb
        obtain ⟨i, hi, rfl⟩ := (h2 a).1 ha
        have e1 := hs i (m - 1) (by omega) (by omega)
        have e2 := hs (m - 1) m (by omega) (by omega)
        rcases hkk with h | h
        · omega
        · omega
      · rw [List.mem_append, h2, List.mem_singleton]
        constructor
        · rintro (⟨i, hi, h⟩ | h)
          · exact ⟨i, by omega, h⟩
          · exact ⟨m, by omega, h.symm⟩
        · rintro ⟨i, hi, h⟩
          rcases Nat.lt_succ_iff_lt_or_eq.1 hi with h' | h'
          · exact .inl ⟨i, h', h⟩
          · subst h'; exact .inr h.symm
    · rw [if_neg hk, List.append_nil]
      refine ⟨h1, fun x => ?_⟩
      have hkk : ¬ m = 0 ∧ d[m]! = d[m - 1]! := by simpa [Lib.keeps] using hk
      rw [h2]
      constructor
      · rintro ⟨i, hi, h⟩; exact ⟨i, by omega, h⟩
      · rintro ⟨i, hi, h⟩
        rcases Nat.lt_succ_iff_lt_or_eq.1 hi with h' | h'
        · exact ⟨i, h', h⟩
        · subst h'; exact ⟨i - 1, by omega, by rw [← hkk.2]; exact h⟩
/-- what the implementation takes for levels -/
def lvls (xs : List Int) (ob : List Bool) (n : Nat) : List Int := Lib.compact (deck.srt (insT xs ob n))
theorem lvls_facts (xs : List Int) (ob : List Bool) (n : Nat) : (lvls xs ob n).Pairwise (· < ·) ∧ ∀ x, x ∈ lvls xs ob n ↔ 0 < x ∧ ∃ i, i < n ∧ live ob i = true ∧ xs.getD i 0 = x := by
  have hsd := deck.srt_sorted (insT xs ob n)
  have hpm := deck.srt_perm (insT xs ob n)
  unfold lvls Lib.compact
  obtain ⟨Z, hZ⟩ : ∃ Z, deck.srt (insT xs ob n) = Z := ⟨_, rfl⟩
  rw [hZ] at hsd hpm ⊢
  have hg : ∀ i, i < Z.length → Z.toArray[i]! = Z.getD i 0 := fun i hi => by simp [hi, List.getD]
  have hf := comp_facts Z.toArray (fun i j hij hj => by
    have hj' : j < Z.length := by simpa using hj
    rw [hg i (by omega), hg j hj']
    rcases Nat.lt_or_ge i j with h | h
    · have := List.pairwise_iff_getElem.1 hsd i j (by omega) hj' h
      simpa [List.getD, hj', show i < Z.length by omega] using this
    · obtain rfl : i = j := by omega
      exact Int.le_refl _) Z.length (by simp)
  refine ⟨hf.1, fun x => ?_⟩
  rw [hf.2, ← insT_mem, ← hpm.mem_iff]
  constructor
  · rintro ⟨i, hi, rfl⟩
    rw [hg i hi]
    simp [List.getD, hi]
  · intro hx
    obtain ⟨i, hi, rfl⟩ := List.mem_iff_getElem.1 hx
    exact ⟨i, hi, by rw [hg i hi]; simp [List.getD, hi]⟩
theorem lvls_len (xs : List Int) (ob : List Bool) (n : Nat) : (lvls xs ob n).length ≤ n := by
  unfold lvls Lib.compact Lib.compactUpTo
  rw [List.length_map]
  refine Nat.le_trans (List.length_filter_le _ _) ?_
  rw [List.length_range, deck.srt_len]
  exact insT_len xs ob n
/-- the next level above a number: 0 if there is none -/
def nhT (xs : List Int) (ob : List Bool) (low : Int) : Nat → Int
  | 0 => 0
  | k + 1 => if live ob k = true ∧ low < xs.getD k 0 ∧ (nhT xs ob low k = 0 ∨ xs.getD k 0 < nhT xs ob low k) then xs.getD k 0 else nhT xs ob low k
theorem nhT_spec (xs : List Int) (ob : List Bool) (low : Int) (h0 : 0 ≤ low) (k : Nat) :
    (nhT xs ob low k = 0 ∧ ∀ i, i < k → live ob i = true → xs.getD i 0 ≤ low) ∨ (low < nhT xs ob low k ∧ (∃ i, i < k ∧ live ob i = true ∧ xs.getD i 0 = nhT xs ob low k) ∧ ∀ i, i < k → live ob i = true → low < xs.getD i 0 → nhT xs ob low k ≤ xs.getD i 0) := by
  induction k with
  | zero => exact .inl ⟨rfl, fun i hi => absurd hi (Nat.not_lt_zero i)⟩
  | succ k ih =>
    unfold nhT
    by_cases h : live ob k = true ∧ low < xs.getD k 0 ∧ (nhT xs ob low k = 0 ∨ xs.getD k 0 < nhT xs ob low k)
    · rw [if_pos h]
      refine .inr ⟨h.2.1, ⟨k, Nat.lt_succ_self _, h.1, rfl⟩, fun i hi hl hlo => ?_⟩
      rcases Nat.lt_succ_iff_lt_or_eq.1 hi with h' | h'
      · rcases ih with ⟨e, hall⟩ | ⟨e1, e2, hall⟩
        · have := hall i h' hl; omega
        · have := hall i h' hl hlo
          rcases h.2.2 with e | e <;> omega
      · subst h'; exact Int.le_refl _
    · rw [if_neg h]
      rcases ih with ⟨e, hall⟩ | ⟨e1, ⟨i0, hi0, e2⟩, hall⟩
      · refine .inl ⟨e, fun i hi hl => ?_⟩
        rcases Nat.lt_succ_iff_lt_or_eq.1 hi with h' | h'
        · exact hall i h' hl
        · subst h'
          rcases Int.lt_or_le low (xs.getD i 0) with hh | hh
          · exact absurd ⟨hl, hh, .inl e⟩ h
          · exact hh
      · refine .inr ⟨e1, ⟨i0, by omega, e2⟩, fun i hi hl hlo => ?_⟩
        rcases Nat.lt_succ_iff_lt_or_eq.1 hi with h' | h'
        · exact hall i h' hl hlo
        · subst h'
          rcases Int.lt_or_le (xs.getD i 0) (nhT xs ob low i) with hh | hh
          · exact absurd ⟨hl, hlo, .inr hh⟩ h
          · exact hh
def lowA (L : List Int) (j : Nat) : Int := if j = 0 then 0 else L.getD (j - 1) 0
theorem low_nonneg {L : List Int} (hp : ∀ x ∈ L, 0 < x) (j : Nat) (hj : j ≤ L.length) : 0 ≤ lowA L j := by
  unfold lowA
  split
  · omega
  · have hl : j - 1 < L.length := by omega
    have := hp L[j - 1] (List.getElem_mem hl)
    have e : L.getD (j - 1) 0 = L[j - 1] := by simp [List.getD, hl]
    omega
theorem nh_level {xs : List Int} {ob : List Bool} {n : Nat} {L : List Int} (hL : L.Pairwise (· < ·)) (hm : ∀ x, x ∈ L ↔ 0 < x ∧ ∃ i, i < n ∧ live ob i = true ∧ xs.getD i 0 = x) (j : Nat) (hj : j ≤ L.length) :
    nhT xs ob (lowA L j) n = if j < L.length then L.getD j 0 else 0 := by
  have hpos : ∀ x ∈ L, 0 < x := fun x hx => ((hm x).1 hx).1
  have hlow := low_nonneg hpos j hj
  have hsort : ∀ a b, a < b → b < L.length → L.getD a 0 < L.getD b 0 := fun a b hab hb => by
    have := List.pairwise_iff_getElem.1 hL a b (by omega) hb hab
    simpa [List.getD, hb, show a < L.length by omega] using this
  have hle : ∀ a b, a ≤ b → b < L.length → L.getD a 0 ≤ L.getD b 0 := fun a b hab hb => by
    rcases Nat.lt_or_ge a b with h | h
    · have := hsort a b h hb; omega
    · obtain rfl : a = b := by omega
      exact Int.le_refl _
  have hget : ∀ x ∈ L, ∃ a, a < L.length ∧ L.getD a 0 = x := fun x hx => by
    obtain ⟨a, ha, rfl⟩ := List.mem_iff_getElem.1 hx
    exact ⟨a, ha, by simp [List.getD, ha]⟩
  have hin : ∀ a, a < L.length → L.getD a 0 ∈ L := fun a ha => by
    have e : L.getD a 0 = L[a] := by simp [List.getD, ha]
    rw [e]; exact List.getElem_mem ha
  have hlj : ∀ a, a < j → L.getD a 0 ≤ lowA L j := fun a ha => by
    unfold lowA
    rw [if_neg (by omega)]
    exact hle a (j - 1) (by omega) (by omega)
  by_cases h : j < L.length
  · rw [if_pos h]
    have hgt : lowA L j < L.getD j 0 := by
      unfold lowA
      split
      · exact hpos _ (hin j h)
      · exact hsort (j - 1) j (by omega) h
    obtain ⟨_, i, hi, hl, he⟩ := (hm _).1 (hin j h)
    rcases nhT_spec xs ob (lowA L j) hlow n with ⟨_, hall⟩ | ⟨e1, ⟨i2, hi2, hl2, he2⟩, hall⟩
    · have := hall i hi hl; omega
    · have h1 := hall i hi hl (by omega)
      obtain ⟨a, ha, hae⟩ := hget (nhT xs ob (lowA L j) n) ((hm _).2 ⟨by omega, i2, hi2, hl2, he2⟩)
      have h2 : j ≤ a := by
        rcases Nat.lt_or_ge a j with h' | h'
        · have := hlj a h'; omega
        · exact h'
      have h3 := hle j a h2 ha
      omega
  · rw [if_neg h]
    rcases nhT_spec xs ob (lowA L j) hlow n with ⟨e, _⟩ | ⟨e1, ⟨i2, hi2, hl2, he2⟩, _⟩
    · exact e
    · obtain ⟨a, ha, hae⟩ := hget (nhT xs ob (lowA L j) n) ((hm _).2 ⟨by omega, i2, hi2, hl2, he2⟩)
      have := hlj a (by omega)
      omega
/-- what the first k seats put in between two numbers -/
def potT (xs : List Int) (high low : Int) : Nat → Int
  | 0 => 0
  | k + 1 => potT xs high low k + max 0 (min (xs.getD k 0) high - low)
def extT (xs : List Int) (low : Int) : Nat → Int
  | 0 => 0
  | k + 1 => if low < xs.getD k 0 then extT xs low k + (xs.getD k 0 - low) else extT xs low k
theorem pot_top (xs : List Int) (high low top : Int) (h1 : low ≤ high) (_h2 : high ≤ top) (k : Nat) (hx : ∀ i, i < k → xs.getD i 0 ≤ top) : potT xs top low k = potT xs high low k + extT xs high k := by
  induction k with
  | zero => rfl
  | succ k ih =>
    have := hx k (Nat.lt_succ_self _)
    have e := ih (fun i hi => hx i (by omega))
    unfold potT extT
    rw [e]
    split <;> omega
def setT (xs : List Int) (ob : List Bool) (high : Int) : Nat → Nat
  | 0 => 0
  | k + 1 => if live ob k = true ∧ high ≤ xs.getD k 0 then setT xs ob high k + 2 ^ k else setT xs ob high k
theorem setT_lt (xs : List Int) (ob : List Bool) (high : Int) (k : Nat) : setT xs ob high k < 2 ^ k := by
  induction k with
  | zero => simp [setT]
  | succ k ih => unfold setT; split <;> omega
def potsL (xs : List Int) (L : List Int) (n : Nat) (k : Nat) : List Int := (List.range k).map fun j => potT xs (L.getD j 0) (lowA L j) n
def setsL (xs : List Int) (ob : List Bool) (L : List Int) (n : Nat) (k : Nat) : List Int := (List.range k).map fun j => ((setT xs ob (L.getD j 0) n : Nat) : Int)
theorem potsL_step (xs L : List Int) (n k : Nat) : potsL xs L n (k + 1) = potsL xs L n k ++ [potT xs (L.getD k 0) (lowA L k) n] := by simp [potsL, List.range_succ]
theorem setsL_step (xs : List Int) (ob : List Bool) (L : List Int) (n k : Nat) : setsL xs ob L n (k + 1) = setsL xs ob L n k ++ [((setT xs ob (L.getD k 0) n : Nat) : Int)] := by simp [setsL, List.range_succ]
theorem potsL_len (xs L : List Int) (n k : Nat) : (potsL xs L n k).length = k := by simp [potsL]
theorem setsL_len (xs : List Int) (ob : List Bool) (L : List Int) (n k : Nat) : (setsL xs ob L n k).length = k := by simp [setsL]
/-- all pots: the last one takes what is above -/
def allPots (xs L : List Int) (n : Nat) : List Int := (potsL xs L n (L.length - 1)) ++ [potT xs (L.getD (L.length - 1) 0) (lowA L (L.length - 1)) n + extT xs (L.getD (L.length - 1) 0) n]
theorem potT_bound (xs : List Int) (high low : Int) (k : Nat) (h0 : 0 ≤ low) (hx : ∀ i, i < k → xs.getD i 0 ≤ 1000000) : 0 ≤ potT xs high low k ∧ potT xs high low k ≤ 1000000 * k := by
  induction k with
  | zero => simp [potT]
  | succ k ih =>
    have := hx k (Nat.lt_succ_self _)
    have e := ih (fun i hi => hx i (by omega))
    unfold potT
    omega
theorem extT_bound (xs : List Int) (low : Int) (k : Nat) (h0 : 0 ≤ low) (hx : ∀ i, i < k → xs.getD i 0 ≤ 1000000) : 0 ≤ extT xs low k ∧ extT xs low k ≤ 1000000 * k := by
  induction k with
  | zero => simp [extT]
  | succ k ih =>
    have := hx k (Nat.lt_succ_self _)
    have e := ih (fun i hi => hx i (by omega))
    unfold extT
    split <;> omega

end Go.Proofs.Ytlfffkjgepgcfaa.chance
