/-
  How pots are shared, in numbers alone. Conditions: those of each theorem.
-/
import Derived.Test.YtlfffkjgepgcfaaPotI
namespace Go.Proofs.Ytlfffkjgepgcfaa.chance
open Go.RowKit
open base mem

/-! ### who wins a pot, in numbers alone -/
def winB (s i : Nat) : Bool := s.testBit i
def mostT (s : Nat) (ys : List Int) : Nat → Int
  | 0 => -1
  | k + 1 => if winB s k = true ∧ mostT s ys k < ys.getD k 0 then ys.getD k 0 else mostT s ys k
def wT (s : Nat) (ys : List Int) : Nat → List Nat
  | 0 => []
  | k + 1 => if winB s k = false ∨ ys.getD k 0 < mostT s ys k then wT s ys k else if mostT s ys k < ys.getD k 0 then [k] else wT s ys k ++ [k]
def isW (s : Nat) (ys : List Int) (M : Int) (i : Nat) : Bool := winB s i && ys.getD i 0 == M
def wF (s : Nat) (ys : List Int) (M : Int) (k : Nat) : List Nat := (List.range k).filter (isW s ys M)
theorem most_ge (s : Nat) (ys : List Int) (k : Nat) : -1 ≤ mostT s ys k ∧ ∀ i, i < k → winB s i = true → ys.getD i 0 ≤ mostT s ys k := by
  induction k with
  | zero => exact ⟨Int.le_refl _, fun i hi => absurd hi (Nat.not_lt_zero i)⟩
  | succ k ih =>
    unfold mostT
    by_cases h : winB s k = true ∧ mostT s ys k < ys.getD k 0
    · rw [if_pos h]
      refine ⟨by omega, fun i hi hw => ?_⟩
      rcases Nat.lt_succ_iff_lt_or_eq.1 hi with h' | h'
      · have := ih.2 i h' hw; omega
      · subst h'; exact Int.le_refl _
    · rw [if_neg h]
      refine ⟨ih.1, fun i hi hw => ?_⟩
      rcases Nat.lt_succ_iff_lt_or_eq.1 hi with h' | h'
      · exact ih.2 i h' hw
      · subst h'
        rcases Int.lt_or_le (mostT s ys i) (ys.getD i 0) with hh | hh
        · exact absurd ⟨hw, hh⟩ h
        · exact hh
theorem mostT_step (s : Nat) (ys : List Int) (k : Nat) : mostT s ys (k + 1) = if winB s k = true ∧ mostT s ys k < ys.getD k 0 then ys.getD k 0 else mostT s ys k := rfl
theorem wF_step (s : Nat) (ys : List Int) (M : Int) (k : Nat) : wF s ys M (k + 1) = if isW s ys M k = true then wF s ys M k ++ [k] else wF s ys M k := by
  unfold wF
  rw [List.range_succ, List.filter_append]
  cases h : isW s ys M k
  · simp [h]
  · simp [h]
theorem wT_eq (s : Nat) (ys : List Int) (k : Nat) (hy : ∀ i, i < k → 0 ≤ ys.getD i 0) : wT s ys k = wF s ys (mostT s ys k) k := by
  induction k with
  | zero => rfl
  | succ k ih =>
    have ih := ih (fun i hi => hy i (by omega))
    rw [wF_step]
    unfold wT
    have hge := most_ge s ys k
    by_cases h1 : winB s k = false ∨ ys.getD k 0 < mostT s ys k
    · rw [if_pos h1]
      have hm : mostT s ys (k + 1) = mostT s ys k := by
        rw [mostT_step, if_neg]
        rintro ⟨a, b⟩
        rcases h1 with h | h
        · rw [h] at a; cases a
        · omega
      have hn : isW s ys (mostT s ys (k + 1)) k = false := by
        rw [hm]
        unfold isW
        rcases h1 with h | h
        · rw [h]; rfl
        · have : (ys.getD k 0 == mostT s ys k) = false := by rw [beq_eq_false_iff_ne]; omega
          rw [this]; simp
      rw [hn, if_neg (by decide), hm, ih]
    · rw [if_neg h1]
      have hw : winB s k = true := by
        cases h : winB s k
        · exact absurd (.inl h) h1
        · rfl
      by_cases h2 : mostT s ys k < ys.getD k 0
      · rw [if_pos h2]
        have hm : mostT s ys (k + 1) = ys.getD k 0 := by rw [mostT_step, if_pos ⟨hw, h2⟩]
        have hn : isW s ys (mostT s ys (k + 1)) k = true := by rw [hm]; unfold isW; rw [hw]; simp
        rw [hn, if_pos rfl]
        have he : wF s ys (mostT s ys (k + 1)) k = [] := by
          unfold wF
          rw [List.filter_eq_nil_iff]
          intro i hi
          rw [List.mem_range] at hi
          unfold isW
          rw [hm]
          cases hwi : winB s i
          · simp
          · have := hge.2 i hi hwi
            have e : (ys.getD i 0 == ys.getD k 0) = false := by rw [beq_eq_false_iff_ne]; omega
            rw [e]; decide
        rw [he]
        rfl
      · rw [if_neg h2]
        have hm : mostT s ys (k + 1) = mostT s ys k := by rw [mostT_step, if_neg (fun h => h2 h.2)]
        have hyk : ys.getD k 0 = mostT s ys k := by
          have : ¬ ys.getD k 0 < mostT s ys k := fun h => h1 (.inr h)
          omega
        have hn : isW s ys (mostT s ys (k + 1)) k = true := by rw [hm]; unfold isW; rw [hw, hyk]; simp
        rw [hn, if_pos rfl, hm, ih]
theorem wT_len (s : Nat) (ys : List Int) (k : Nat) : (wT s ys k).length ≤ k := by
  induction k with
  | zero => simp [wT]
  | succ k ih =>
    unfold wT
    split
    · omega
    · split
      · simp
      · simp; omega
theorem wT_some (s : Nat) (ys : List Int) (k i : Nat) (hi : i < k) (hw : winB s i = true) (hy : ∀ i, i < k → 0 ≤ ys.getD i 0) : 1 ≤ (wT s ys k).length := by
  have key : ∀ k, (∀ j, j < k → 0 ≤ ys.getD j 0) → (wT s ys k = [] → mostT s ys k = -1) := by
    intro k
    induction k with
    | zero => intro _ _; rfl
    | succ k ih =>
      intro hy h
      unfold wT at h
      split at h
      · rename_i h1
        have := ih (fun j hj => hy j (by omega)) h
        rw [mostT_step, if_neg]
        · exact this
        · rintro ⟨a, b⟩
          rcases h1 with h' | h'
          · rw [h'] at a; cases a
          · omega
      · split at h
        · cases h
        · exact absurd h (by simp)
  rcases Nat.eq_zero_or_pos (wT s ys k).length with h0 | h0
  · have h1 := key k hy (List.eq_nil_of_length_eq_zero h0)
    have h2 := (most_ge s ys k).2 i hi hw
    have := hy i hi
    omega
  · exact h0
/-- what the first j winners get of a pot -/
def gW (G : List Int) (P : Int) (m : Nat) (W : List Nat) : Nat → List Int
  | 0 => G
  | j + 1 => (gW G P m W j).set (W.getD j 0) ((gW G P m W j).getD (W.getD j 0) 0 + P / m + if (j : Int) < P % m then 1 else 0)
theorem gW_len (G : List Int) (P : Int) (m : Nat) (W : List Nat) (j : Nat) : (gW G P m W j).length = G.length := by
  induction j with
  | zero => rfl
  | succ j ih => simp [gW, ih]
theorem set_same (l : List Int) (x : Nat) (v : Int) (h : x < l.length) : (l.set x v).getD x 0 = v := by simp [List.getD, h]
theorem set_over (l : List Int) (x : Nat) (v : Int) (h : ¬ x < l.length) : (l.set x v).getD x 0 = 0 := by simp [List.getD, h]
theorem set_far (l : List Int) (x i : Nat) (v : Int) (h : i ≠ x) : (l.set x v).getD i 0 = l.getD i 0 := by simp [List.getD, List.getElem?_set_ne (Ne.symm h)]
theorem gW_bound (G : List Int) (P : Int) (m : Nat) (W : List Nat) (b : Int) (hP : 0 ≤ P ∧ P ≤ 12000000) (hm : 1 ≤ m) (hG : ∀ i, 0 ≤ G.getD i 0 ∧ G.getD i 0 ≤ b) (j : Nat) :
    ∀ i, 0 ≤ (gW G P m W j).getD i 0 ∧ (gW G P m W j).getD i 0 ≤ b + 12000001 * j := by
  have h1 : 0 ≤ P / (m : Int) := Int.ediv_nonneg hP.1 (by omega)
  have h2 : P / (m : Int) ≤ P := Int.ediv_le_self _ hP.1
  induction j with
  | zero => intro i; have := hG i; show 0 ≤ G.getD i 0 ∧ G.getD i 0 ≤ b + 12000001 * ((0 : Nat) : Int); omega
  | succ j ih =>
    intro i
    unfold gW
    by_cases h : i = W.getD j 0
    · subst h
      by_cases hl : W.getD j 0 < (gW G P m W j).length
      · rw [set_same _ _ _ hl]
        have := ih (W.getD j 0)
        split <;> omega
      · rw [set_over _ _ _ hl]
        have := ih (W.getD j 0)
        omega
    · rw [set_far _ _ _ _ h]
      have := ih i
      omega
theorem wF_prefix (s : Nat) (ys : List Int) (M : Int) (n k : Nat) (hk : k < n) (h : isW s ys M k = true) : (wF s ys M n).getD (wF s ys M k).length 0 = k ∧ (wF s ys M k).length < (wF s ys M n).length := by
  have key : ∀ n, k < n → ∃ r, wF s ys M n = wF s ys M k ++ k :: r := by
    intro n
    induction n with
    | zero => intro h; exact absurd h (Nat.not_lt_zero _)
    | succ n ih =>
      intro hkn
      rw [wF_step]
      rcases Nat.lt_succ_iff_lt_or_eq.1 hkn with h' | h'
      · obtain ⟨r, hr⟩ := ih h'
        split
        · exact ⟨r ++ [n], by rw [hr]; simp⟩
        · exact ⟨r, hr⟩
      · subst h'
        rw [if_pos h]
        exact ⟨[], rfl⟩
  obtain ⟨r, hr⟩ := key n hk
  rw [hr]
  constructor
  · simp [List.getD]
  · simp
theorem wF_mem {s : Nat} {ys : List Int} {M : Int} {n j : Nat} (hj : j < (wF s ys M n).length) : (wF s ys M n).getD j 0 < n := by
  have e : (wF s ys M n).getD j 0 = (wF s ys M n)[j] := by simp [List.getD, hj]
  rw [e]
  have := List.getElem_mem hj
  unfold wF at this
  rw [List.mem_filter, List.mem_range] at this
  exact this.1
/-- all pots shared, one behind the other -/
def shT (PS : List Int) (SS : List Int) (ys : List Int) (n : Nat) : Nat → List Int
  | 0 => List.replicate n 0
  | p + 1 => gW (shT PS SS ys n p) (PS.getD p 0) (wT (SS.getD p 0).toNat ys n).length (wT (SS.getD p 0).toNat ys n) (wT (SS.getD p 0).toNat ys n).length
theorem shT_len (PS SS ys : List Int) (n p : Nat) : (shT PS SS ys n p).length = n := by
  induction p with
  | zero => simp [shT]
  | succ p ih => rw [shT, gW_len, ih]
theorem shT_bound (PS SS ys : List Int) (n : Nat) (hn : n ≤ 6) (hP : ∀ p, p < PS.length → 0 ≤ PS.getD p 0 ∧ PS.getD p 0 ≤ 12000000) (hw : ∀ p, p < PS.length → 1 ≤ (wT (SS.getD p 0).toNat ys n).length) (p : Nat) (hp : p ≤ PS.length) :
    ∀ i, 0 ≤ (shT PS SS ys n p).getD i 0 ∧ (shT PS SS ys n p).getD i 0 ≤ 80000000 * p := by
  induction p with
  | zero =>
    intro i
    have : (List.replicate n (0 : Int)).getD i 0 = 0 := by
      by_cases h : i < n
      · simp [List.getD, h]
      · simp [List.getD, h]
    show 0 ≤ (List.replicate n (0 : Int)).getD i 0 ∧ (List.replicate n (0 : Int)).getD i 0 ≤ 80000000 * ((0 : Nat) : Int)
    rw [this]
    omega
  | succ p ih =>
    intro i
    have hl := wT_len (SS.getD p 0).toNat ys n
    have h := gW_bound (shT PS SS ys n p) (PS.getD p 0) (wT (SS.getD p 0).toNat ys n).length (wT (SS.getD p 0).toNat ys n) (80000000 * p) (hP p (by omega)) (hw p (by omega)) (ih (by omega)) (wT (SS.getD p 0).toNat ys n).length i
    rw [shT]
    omega
theorem set_bit (xs : List Int) (ob : List Bool) (H : Int) (n i : Nat) (hi : i < n) (hl : live ob i = true) (hx : H ≤ xs.getD i 0) : winB (setT xs ob H n) i = true := by
  unfold winB
  induction n with
  | zero => exact absurd hi (Nat.not_lt_zero i)
  | succ n ih =>
    have hlt := setT_lt xs ob H n
    unfold setT
    rcases Nat.lt_succ_iff_lt_or_eq.1 hi with h | h
    · split
      · rw [Nat.add_comm, Nat.testBit_two_pow_add_gt h]
        exact ih h
      · exact ih h
    · subst h
      rw [if_pos ⟨hl, hx⟩, Nat.add_comm, Nat.testBit_two_pow_add_eq, Nat.testBit_lt_two_pow hlt]
      rfl

/-! what is known of pots and sets when they are told -/
theorem spPots_facts {xs : List Int} {ob : List Bool} (h : spOk xs ob = true) : (spPots xs ob).length = (lvls xs ob xs.length).length ∧ (spSets xs ob).length = (lvls xs ob xs.length).length ∧
    (∀ p, p < (spPots xs ob).length → 0 ≤ (spPots xs ob).getD p 0 ∧ (spPots xs ob).getD p 0 ≤ 12000000) ∧
    ∀ p, p < (spPots xs ob).length → ∃ H i : Nat, (spSets xs ob).getD p 0 = ((setT xs ob (H : Int) xs.length : Nat) : Int) ∧ i < xs.length ∧ winB (setT xs ob (H : Int) xs.length) i = true := by
  have hst : stOk xs ob = true := by unfold spOk at h; rw [Bool.and_eq_true] at h; exact h.1
  have hne : ¬ (lvls xs ob xs.length).length = 0 := by
    unfold spOk at h
    rw [Bool.and_eq_true] at h
    intro e
    rw [e] at h
    exact absurd h.2 (by decide)
  obtain ⟨h16, _, hx⟩ := st_facts hst
  have hlf := lvls_facts xs ob xs.length
  have e1 : spPots xs ob = allPots xs (lvls xs ob xs.length) xs.length := by unfold spPots potsOut; rw [if_pos h, if_neg hne]
  have e2 : spSets xs ob = setsL xs ob (lvls xs ob xs.length) xs.length (lvls xs ob xs.length).length := by unfold spSets setsOut; rw [if_pos h]
  rw [e1, e2]
  obtain ⟨L, hL⟩ : ∃ L, lvls xs ob xs.length = L := ⟨_, rfl⟩
  rw [hL] at hlf hne ⊢
  have hpos : ∀ x ∈ L, 0 < x := fun x hx' => ((hlf.2 x).1 hx').1
  have hal : (allPots xs L xs.length).length = L.length := by unfold allPots; rw [List.length_append, potsL_len]; simp; omega
  refine ⟨hal, setsL_len _ _ _ _ _, fun p hp => ?_, fun p hp => ?_⟩
  · rw [hal] at hp
    have hlow := low_nonneg hpos
    unfold allPots
    by_cases hl : p < L.length - 1
    · have e : (potsL xs L xs.length (L.length - 1) ++ [potT xs (L.getD (L.length - 1) 0) (lowA L (L.length - 1)) xs.length + extT xs (L.getD (L.length - 1) 0) xs.length]).getD p 0 = potT xs (L.getD p 0) (lowA L p) xs.length := by
        have hp' : p < (potsL xs L xs.length (L.length - 1)).length := by rw [potsL_len]; exact hl
        simp only [List.getD, List.getElem?_append_left hp']
        simp [potsL, hl]
      rw [e]
      have := potT_bound xs (L.getD p 0) (lowA L p) xs.length (hlow p (by omega)) (fun i hi => (hx i hi).2)
      omega
    · have hpe : p = L.length - 1 := by omega
      have e : (potsL xs L xs.length (L.length - 1) ++ [potT xs (L.getD (L.length - 1) 0) (lowA L (L.length - 1)) xs.length + extT xs (L.getD (L.length - 1) 0) xs.length]).getD p 0 = potT xs (L.getD p 0) (lowA L p) xs.length + extT xs (L.getD p 0) xs.length := by
        rw [hpe]
        have key : ∀ (A : List Int) (x : Int) (k : Nat), A.length = k → (A ++ [x]).getD k 0 = x := fun A x k hk => by simp [List.getD, hk]
        exact key _ _ _ (potsL_len _ _ _ _)
      rw [e]
      have h1 := potT_bound xs (L.getD p 0) (lowA L p) xs.length (hlow p (by omega)) (fun i hi => (hx i hi).2)
      have h0 : 0 ≤ L.getD p 0 := by
        have e3 : L.getD p 0 = L[p] := by simp [List.getD, hp]
        rw [e3]
        exact Int.le_of_lt (hpos _ (List.getElem_mem hp))
      have h2 := extT_bound xs (L.getD p 0) xs.length h0 (fun i hi => (hx i hi).2)
      omega
  · rw [hal] at hp
    have e3 : L.getD p 0 = L[p] := by simp [List.getD, hp]
    obtain ⟨hp0, i, hi, hl, he⟩ := (hlf.2 _).1 (List.getElem_mem hp)
    obtain ⟨H, hH⟩ := Int.eq_ofNat_of_zero_le (Int.le_of_lt hp0)
    refine ⟨H, i, ?_, hi, set_bit xs ob H xs.length i hi hl (by rw [he, hH]; exact Int.le_refl _)⟩
    unfold setsL
    simp only [List.getD, List.getElem?_map, List.getElem?_range hp, Option.map_some, Option.getD_some]
    rw [← hH, ← e3]
    rfl
def shOk (xs : List Int) (ob : List Bool) (ys : List Int) : Bool := spOk xs ob && (decide (ys.length = xs.length) && !badB 10000000 0 ys)
def shOut (xs : List Int) (ob : List Bool) (ys : List Int) : List Int := if shOk xs ob ys = true then shT (spPots xs ob) (spSets xs ob) ys xs.length (spPots xs ob).length else []
theorem shOut_len (xs : List Int) (ob : List Bool) (ys : List Int) : (shOut xs ob ys).length ≤ 1048576 := by
  unfold shOut
  cases h : shOk xs ob ys
  · simp
  · rw [if_pos rfl, shT_len]
    unfold shOk spOk at h
    simp only [Bool.and_eq_true] at h
    have := (st_facts h.1.1).1
    omega

end Go.Proofs.Ytlfffkjgepgcfaa.chance
