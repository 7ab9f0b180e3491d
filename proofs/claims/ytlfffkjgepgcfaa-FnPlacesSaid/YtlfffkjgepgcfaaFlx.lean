/-
  Floats: where the result can be written as it is, it is told exactly. Conditions: those of each theorem.
-/
import Derived.Test.YtlfffkjgepgcfaaFloat
namespace Go.Proofs.Ytlfffkjgepgcfaa.fl
open Ieee

/-- what is written, read: within half a unit of its last place -/
theorem nearest_ok2 (f : Format) (neg : Bool) (mag : Nat) (place M : Int) (hM0 : f.leastPlace + f.fractionBits ≤ M)
    (hM1 : M - f.fractionBits - f.leastPlace + 2 < (2 : Int) ^ f.exponentBits - 1) (hv : (mag : Rat) * 2 ^ place ≤ 2 ^ M) :
    ∃ m e, f.read (f.nearest neg mag place) = .number neg m e ∧ (m : Rat) * 2 ^ e ≤ 2 ^ M ∧
      2 * ((m : Rat) * 2 ^ e) ≤ 2 * ((mag : Rat) * 2 ^ place) + 2 ^ (M - f.fractionBits) ∧ 2 * ((mag : Rat) * 2 ^ place) ≤ 2 * ((m : Rat) * 2 ^ e) + 2 ^ (M - f.fractionBits) ∧
      (∀ K : Int, f.leastPlace ≤ K → (2 : Rat) ^ K ≤ (mag : Rat) * 2 ^ place → (2 : Rat) ^ K ≤ (m : Rat) * 2 ^ e) ∧ (mag = 0 → m = 0) ∧
      (∀ (k : Nat) (j : Int), k < 2 * f.binade → f.leastPlace ≤ j → (mag : Rat) * 2 ^ place = (k : Rat) * 2 ^ j → (m : Rat) * 2 ^ e = (mag : Rat) * 2 ^ place) := by
  have hr0 : 0 < f.infRung := by
    have h1 : ((2 ^ f.exponentBits : Nat) : Int) = (2 : Int) ^ f.exponentBits := by simp
    exact Nat.mul_pos (by omega) (Nat.two_pow_pos _)
  by_cases hm : mag = 0
  · subst hm
    refine ⟨0, f.leastPlace, ?_, ?_, ?_, ?_, ?_, ?_, ?_⟩
    · unfold Format.nearest
      rw [if_pos rfl, read_word f neg 0 hr0]
      rw [if_pos (show 0 < f.binade from Nat.two_pow_pos _)]
    · have := p2_pos M; grind
    · have := p2_pos (M - f.fractionBits); grind
    · have := p2_pos (M - f.fractionBits); grind
    · intro K _ h; have := p2_pos K; grind
    · exact fun _ => rfl
    · intro k j _ _ _
      have e4 : ((0 : Nat) : Rat) = 0 := rfl
      rw [e4]
      grind
  unfold Format.nearest
  rw [if_neg hm]
  dsimp only
  generalize hL : max (place + mag.log2 - f.fractionBits) f.leastPlace = L
  generalize hn : mag <<< (place - L).toNat = n
  generalize hd : (L - place).toNat = drop
  have hnn : n = mag * 2 ^ (place - L).toNat := by rw [← hn, Nat.shiftLeft_eq]
  -- n units of 2^L over 2^drop
  have hu : (n : Rat) * 2 ^ L = (mag : Rat) * 2 ^ place * ((2 ^ drop : Nat) : Rat) := by
    rw [hnn, Rat.natCast_mul]
    rcases Int.le_total L place with h | h
    · rw [p2_toNat (by omega), show drop = 0 by omega, Rat.mul_assoc, ← p2_add, show place - L + L = place by omega]
      simp
    · rw [show (place - L).toNat = 0 by omega, ← hd, p2_toNat (by omega), Rat.mul_assoc, Rat.mul_assoc, ← p2_add, show place + (L - place) = L by omega]
      simp
  have hlog : 2 ^ mag.log2 ≤ mag := Nat.log2_self_le hm
  have hlog2 : mag < 2 ^ (mag.log2 + 1) := Nat.lt_log2_self
  have hLM : L ≤ M - f.fractionBits := by
    -- 2^(place+log2) ≤ 2^M
    have h1 : ((2 ^ mag.log2 : Nat) : Rat) * 2 ^ place ≤ 2 ^ M := Rat.le_trans (mul_le_right (nat_le.2 hlog) (Rat.le_of_lt (p2_pos _))) hv
    rw [← p2_nat, ← p2_add] at h1
    have h2 : (mag.log2 : Int) + place ≤ M := by
      rcases Int.lt_or_le M (mag.log2 + place) with h | h
      · have := p2_mono (show M + 1 ≤ mag.log2 + place by omega)
        rw [p2_add] at this
        have h3 := p2_pos M
        have : (2 : Rat) ^ (1 : Int) = 2 := by rw [Rat.zpow_one]
        grind
      · exact h
    omega
  have hk1 : Toward.even.cut neg n drop ≤ 2 * f.binade := by
    apply cut_hi
    have : (n : Rat) * 2 ^ L ≤ ((2 * f.binade * 2 ^ drop : Nat) : Rat) * 2 ^ L := by
      rw [hu, Rat.natCast_mul, Rat.mul_assoc, Rat.mul_assoc, Rat.mul_comm ((2 ^ drop : Nat) : Rat), ← Rat.mul_assoc, ← Rat.mul_assoc]
      refine mul_le_right ?_ (by exact_mod_cast Nat.zero_le _)
      have h1 : (mag : Rat) * 2 ^ place ≤ ((2 ^ (mag.log2 + 1) : Nat) : Rat) * 2 ^ place := mul_le_right (nat_le.2 (Nat.le_of_lt hlog2)) (Rat.le_of_lt (p2_pos _))
      refine Rat.le_trans h1 ?_
      rw [← p2_nat, ← p2_add, show 2 * f.binade = 2 ^ (f.fractionBits + 1) by unfold Format.binade; rw [Nat.pow_succ, Nat.mul_comm], ← p2_nat, ← p2_add]
      exact p2_mono (by omega)
    exact nat_le.1 (le_of_mul this (p2_pos _))
  have hk2 : f.leastPlace < L → f.binade ≤ Toward.even.cut neg n drop := by
    intro hlt
    apply cut_lo
    have : ((f.binade * 2 ^ drop : Nat) : Rat) * 2 ^ L ≤ (n : Rat) * 2 ^ L := by
      rw [hu, Rat.natCast_mul, Rat.mul_assoc, Rat.mul_comm ((2 ^ drop : Nat) : Rat), ← Rat.mul_assoc]
      refine mul_le_right ?_ (by exact_mod_cast Nat.zero_le _)
      have h1 : ((2 ^ mag.log2 : Nat) : Rat) * 2 ^ place ≤ (mag : Rat) * 2 ^ place := mul_le_right (nat_le.2 hlog) (Rat.le_of_lt (p2_pos _))
      refine Rat.le_trans ?_ h1
      rw [← p2_nat, ← p2_add, show f.binade = 2 ^ f.fractionBits by rfl, ← p2_nat, ← p2_add]
      exact p2_mono (by omega)
    exact nat_le.1 (le_of_mul this (p2_pos _))
  have hnear := cut_near neg n drop
  have hhi : ∀ k : Nat, (mag : Rat) * 2 ^ place ≤ (k : Rat) * 2 ^ L → Toward.even.cut neg n drop ≤ k := by
    intro k hk
    apply cut_hi
    have : (n : Rat) * 2 ^ L ≤ ((k * 2 ^ drop : Nat) : Rat) * 2 ^ L := by
      rw [hu, Rat.natCast_mul, Rat.mul_assoc (k : Rat), Rat.mul_comm ((2 ^ drop : Nat) : Rat), ← Rat.mul_assoc]
      exact mul_le_right hk (by exact_mod_cast Nat.zero_le _)
    exact nat_le.1 (le_of_mul this (p2_pos _))
  have hlo : ∀ k : Nat, (k : Rat) * 2 ^ L ≤ (mag : Rat) * 2 ^ place → k ≤ Toward.even.cut neg n drop := by
    intro k hk
    apply cut_lo
    have : ((k * 2 ^ drop : Nat) : Rat) * 2 ^ L ≤ (n : Rat) * 2 ^ L := by
      rw [hu, Rat.natCast_mul, Rat.mul_assoc, Rat.mul_comm ((2 ^ drop : Nat) : Rat), ← Rat.mul_assoc]
      exact mul_le_right hk (by exact_mod_cast Nat.zero_le _)
    exact nat_le.1 (le_of_mul this (p2_pos _))
  generalize hkept : Toward.even.cut neg n drop = kept at *
  have hLl : f.leastPlace ≤ L := by omega
  have hb : 0 < f.binade := Nat.two_pow_pos _
  -- in rationals
  have hd0 : (0 : Rat) < ((2 ^ drop : Nat) : Rat) := by have := nat_lt.2 (Nat.two_pow_pos drop); simpa using this
  have hr1 : 2 * ((kept : Rat) * 2 ^ L) ≤ 2 * ((mag : Rat) * 2 ^ place) + 2 ^ L := by
    have h1 : ((2 * (kept * 2 ^ drop) : Nat) : Rat) ≤ ((2 * n + 2 ^ drop : Nat) : Rat) := nat_le.2 hnear.1
    rw [Rat.natCast_mul, Rat.natCast_mul, Rat.natCast_add, Rat.natCast_mul] at h1
    have h2 := mul_le_right h1 (Rat.le_of_lt (p2_pos L))
    refine le_of_mul ?_ hd0
    generalize ((2 ^ drop : Nat) : Rat) = D at *
    generalize (2 : Rat) ^ L = U at *
    generalize (mag : Rat) * 2 ^ place = v at *
    have h3 : ((2 : Nat) : Rat) = 2 := rfl
    rw [h3] at h2
    grind
  have hr2 : 2 * ((mag : Rat) * 2 ^ place) ≤ 2 * ((kept : Rat) * 2 ^ L) + 2 ^ L := by
    have h1 : ((2 * n : Nat) : Rat) ≤ ((2 * (kept * 2 ^ drop) + 2 ^ drop : Nat) : Rat) := nat_le.2 hnear.2
    rw [Rat.natCast_mul, Rat.natCast_add, Rat.natCast_mul, Rat.natCast_mul] at h1
    have h2 := mul_le_right h1 (Rat.le_of_lt (p2_pos L))
    refine le_of_mul ?_ hd0
    generalize ((2 ^ drop : Nat) : Rat) = D at *
    generalize (2 : Rat) ^ L = U at *
    generalize (mag : Rat) * 2 ^ place = v at *
    have h3 : ((2 : Nat) : Rat) = 2 := rfl
    rw [h3] at h2
    grind
  have hU : (2 : Rat) ^ L ≤ 2 ^ (M - f.fractionBits) := p2_mono hLM
  have hM : (kept : Rat) * 2 ^ L ≤ 2 ^ M := by
    have h1 : (2 : Rat) ^ M = ((2 ^ (M - L).toNat : Nat) : Rat) * 2 ^ L := by
      rw [p2_toNat (by omega), ← p2_add]; congr 1; omega
    rw [h1]
    refine mul_le_right (nat_le.2 (hhi _ ?_)) (Rat.le_of_lt (p2_pos _))
    rw [← h1]; exact hv
  have hK : ∀ K : Int, f.leastPlace ≤ K → (2 : Rat) ^ K ≤ (mag : Rat) * 2 ^ place → (2 : Rat) ^ K ≤ (kept : Rat) * 2 ^ L := by
    intro K hK h
    rcases Int.lt_or_le K L with hlt | hge
    · have h1 := hk2 (by omega)
      have h2 : (2 : Rat) ^ (f.fractionBits + L) ≤ (kept : Rat) * 2 ^ L := by
        rw [p2_add, p2_nat]
        exact mul_le_right (nat_le.2 h1) (Rat.le_of_lt (p2_pos _))
      exact Rat.le_trans (p2_mono (by omega)) h2
    · have h1 : (2 : Rat) ^ K = ((2 ^ (K - L).toNat : Nat) : Rat) * 2 ^ L := by
        rw [p2_toNat (by omega), ← p2_add]; congr 1; omega
      rw [h1]
      refine mul_le_right (nat_le.2 (hlo _ ?_)) (Rat.le_of_lt (p2_pos _))
      rw [← h1]; exact h
  have hX : ∀ (k : Nat) (j : Int), k < 2 * f.binade → f.leastPlace ≤ j → (mag : Rat) * 2 ^ place = (k : Rat) * 2 ^ j → (kept : Rat) * 2 ^ L = (mag : Rat) * 2 ^ place := by
    intro k j h1 h2 h3
    have hLj : L ≤ j := by
      have g1 : ((2 ^ mag.log2 : Nat) : Rat) * 2 ^ place ≤ (mag : Rat) * 2 ^ place := mul_le_right (nat_le.2 hlog) (Rat.le_of_lt (p2_pos _))
      have g2 : (k : Rat) < ((2 ^ (f.fractionBits + 1) : Nat) : Rat) := nat_lt.2 (by rw [Nat.pow_succ, Nat.mul_comm]; exact h1)
      have g3 : (k : Rat) * 2 ^ j < ((2 ^ (f.fractionBits + 1) : Nat) : Rat) * 2 ^ j := Rat.mul_lt_mul_of_pos_right g2 (p2_pos j)
      rw [← p2_nat, ← p2_add] at g1 g3
      have g4 : (mag.log2 : Int) + place < (f.fractionBits + 1 : Nat) + j := by
        rcases Int.lt_or_le ((mag.log2 : Int) + place) ((f.fractionBits + 1 : Nat) + j) with h | h
        · exact h
        · have := p2_mono h
          rw [h3] at g1
          grind
      omega
    have hk : (mag : Rat) * 2 ^ place = ((k * 2 ^ (j - L).toNat : Nat) : Rat) * 2 ^ L := by
      rw [h3, Rat.natCast_mul, p2_toNat (by omega), Rat.mul_assoc, ← p2_add]
      congr 2; omega
    have a := hhi _ (by rw [← hk]; exact Rat.le_refl)
    have b := hlo _ (by rw [← hk]; exact Rat.le_refl)
    rw [hk, Nat.le_antisymm a b]
  -- the rung
  have hrung : (L - f.leastPlace).toNat * f.binade + kept < f.infRung := by
    unfold Format.infRung
    have h1 : (L - f.leastPlace).toNat + 2 < 2 ^ f.exponentBits - 1 := by
      have : ((2 ^ f.exponentBits : Nat) : Int) = (2 : Int) ^ f.exponentBits := by simp
      omega
    have h2 : ((L - f.leastPlace).toNat + 3) * f.binade ≤ (2 ^ f.exponentBits - 1) * f.binade := Nat.mul_le_mul_right _ (by omega)
    rw [Nat.add_mul] at h2
    omega
  rw [Nat.min_eq_left (Nat.le_of_lt hrung), read_word f neg _ hrung]
  have fin : ∀ m e, (if (L - f.leastPlace).toNat * f.binade + kept < f.binade then Datum.number neg ((L - f.leastPlace).toNat * f.binade + kept) f.leastPlace
      else .number neg (f.binade + ((L - f.leastPlace).toNat * f.binade + kept) % f.binade) (f.leastPlace + (((L - f.leastPlace).toNat * f.binade + kept) / f.binade - 1 : Nat))) = .number neg m e → (m : Rat) * 2 ^ e = (kept : Rat) * 2 ^ L → ∃ m e, (if (L - f.leastPlace).toNat * f.binade + kept < f.binade then Datum.number neg ((L - f.leastPlace).toNat * f.binade + kept) f.leastPlace
      else .number neg (f.binade + ((L - f.leastPlace).toNat * f.binade + kept) % f.binade) (f.leastPlace + (((L - f.leastPlace).toNat * f.binade + kept) / f.binade - 1 : Nat))) = .number neg m e ∧ (m : Rat) * 2 ^ e ≤ 2 ^ M ∧
      2 * ((m : Rat) * 2 ^ e) ≤ 2 * ((mag : Rat) * 2 ^ place) + 2 ^ (M - f.fractionBits) ∧ 2 * ((mag : Rat) * 2 ^ place) ≤ 2 * ((m : Rat) * 2 ^ e) + 2 ^ (M - f.fractionBits) ∧
      (∀ K : Int, f.leastPlace ≤ K → (2 : Rat) ^ K ≤ (mag : Rat) * 2 ^ place → (2 : Rat) ^ K ≤ (m : Rat) * 2 ^ e) ∧ (mag = 0 → m = 0) ∧
      (∀ (k : Nat) (j : Int), k < 2 * f.binade → f.leastPlace ≤ j → (mag : Rat) * 2 ^ place = (k : Rat) * 2 ^ j → (m : Rat) * 2 ^ e = (mag : Rat) * 2 ^ place) := by
    intro m e h1 h2
    exact ⟨m, e, h1, by rw [h2]; exact hM, by rw [h2]; grind, by rw [h2]; grind, by rw [h2]; exact hK, fun h => absurd h hm, by rw [h2]; exact hX⟩
  rcases Nat.lt_or_ge kept f.binade with hkb | hkb
  · have hL0 : L = f.leastPlace := by
      rcases Int.lt_or_le f.leastPlace L with h | h
      · have := hk2 h; omega
      · omega
    subst hL0
    refine fin kept f.leastPlace ?_ rfl
    rw [Int.sub_self, Int.toNat_zero, Nat.zero_mul, Nat.zero_add, if_pos hkb]
  · obtain ⟨j, hj⟩ : ∃ j : Nat, L = f.leastPlace + j := ⟨(L - f.leastPlace).toNat, by omega⟩
    have hjn : (L - f.leastPlace).toNat = j := by omega
    rw [hjn] at fin ⊢
    have hge : ¬ j * f.binade + kept < f.binade := by omega
    rcases Nat.lt_or_ge kept (2 * f.binade) with hk3 | hk3
    · refine fin kept L ?_ rfl
      rw [if_neg hge]
      have e1 : (j * f.binade + kept) % f.binade = kept - f.binade := by
        rw [Nat.add_comm, Nat.add_mul_mod_self_right, Nat.mod_eq_sub_mod hkb, Nat.mod_eq_of_lt (by omega)]
      have e2 : (j * f.binade + kept) / f.binade = j + 1 := by
        rw [Nat.add_comm, Nat.add_mul_div_right _ _ hb, Nat.div_eq_of_lt_le (k := 1) (by omega) (by omega), Nat.add_comm]
      rw [e1, e2, show f.binade + (kept - f.binade) = kept by omega, show f.leastPlace + ((j + 1 - 1 : Nat) : Int) = L by rw [hj]; simp]
    · have hk4 : kept = 2 * f.binade := by omega
      refine fin f.binade (L + 1) ?_ ?_
      · rw [if_neg hge]
        have e1 : (j * f.binade + kept) % f.binade = 0 := by
          rw [hk4, ← Nat.add_mul, Nat.mul_mod_left]
        have e2 : (j * f.binade + kept) / f.binade = j + 2 := by
          rw [hk4, ← Nat.add_mul, Nat.mul_div_cancel _ hb]
        rw [e1, e2, Nat.add_zero, show f.leastPlace + ((j + 2 - 1 : Nat) : Int) = L + 1 by rw [hj]; omega]
      · rw [hk4, p2_add, Rat.zpow_one, Rat.natCast_mul]
        have h3 : ((2 : Nat) : Rat) = 2 := rfl
        rw [h3]; grind


/-- x can be written in the format -/
def Rep (f : Format) (x : Rat) : Prop := ∃ (s : Bool) (k : Nat) (j : Int), x = sv s ((k : Rat) * 2 ^ j) ∧ k < 2 * f.binade ∧ f.leastPlace ≤ j
theorem sv_inj {s t : Bool} {x y : Rat} (hx : 0 ≤ x) (hy : 0 ≤ y) (h : sv s x = sv t y) : x = y := by
  unfold sv at h
  cases s <;> cases t <;> simp at h <;> grind
theorem write_exact {f : Format} {M : Int} (hM : Fits f M) {s : Bool} {mag : Nat} {place : Int} {x : Rat} (hx : x = sv s ((mag : Rat) * 2 ^ place)) (h1 : -2 ^ M ≤ x) (h2 : x ≤ 2 ^ M) (hr : Rep f x) : V f (f.write (.number s mag place)) x := by
  have hp : (0 : Rat) ≤ (mag : Rat) * 2 ^ place := Rat.mul_nonneg (by exact_mod_cast Nat.zero_le _) (Rat.le_of_lt (p2_pos _))
  have hv : (mag : Rat) * 2 ^ place ≤ 2 ^ M := by
    rw [hx] at h1 h2
    unfold sv at h1 h2
    split at h1 <;> grind
  obtain ⟨t, k, j, hk, hk1, hk2⟩ := hr
  obtain ⟨m, e, hr, _, _, _, _, _, a6⟩ := nearest_ok2 f s mag place M hM.1 hM.2 hv
  have hq : (0 : Rat) ≤ (k : Rat) * 2 ^ j := Rat.mul_nonneg (by exact_mod_cast Nat.zero_le _) (Rat.le_of_lt (p2_pos _))
  have he := sv_inj hp hq (hx.symm.trans hk)
  exact ⟨s, m, e, hr, by rw [a6 k j hk1 hk2 he, hx]⟩
theorem mul_exact {f : Format} {M : Int} (hM : Fits f M) {a b : Nat} {x y : Rat} (ha : V f a x) (hb : V f b y) (h1 : -2 ^ M ≤ x * y) (h2 : x * y ≤ 2 ^ M) (hr : Rep f (x * y)) : ∃ r, f.mul a b = some r ∧ V f r (x * y) := by
  obtain ⟨s, m, e, hq, rfl⟩ := ha
  obtain ⟨t, n, i, hp, rfl⟩ := hb
  refine ⟨_, by unfold Format.mul; rw [hq, hp]; rfl, write_exact hM ?_ h1 h2 hr⟩
  rw [← sv_mul, p2_add, Rat.natCast_mul]
  congr 1
  grind
theorem V_rep {f : Format} {b : Nat} {x : Rat} (h : V f b x) : Rep f x := by
  obtain ⟨s, m, e, hr, rfl⟩ := h
  refine ⟨s, m, e, rfl, ?_⟩
  have hb : 0 < f.binade := Nat.two_pow_pos _
  unfold Format.read at hr
  dsimp only at hr
  split at hr
  · injection hr with _ h1 h2
    subst h1 h2
    exact ⟨by omega, Int.le_refl _⟩
  · split at hr
    · injection hr with _ h1 h2
      subst h1 h2
      have := Nat.mod_lt (b % f.signWeight) hb
      exact ⟨by omega, by omega⟩
    · split at hr <;> cases hr
theorem two_V64 : V double 4611686018427387904 2 := ⟨false, 4503599627370496, -51, by decide, by decide +kernel⟩
/-- doubled -/
theorem dbl_ok {b : Nat} {x : Rat} (h : V double b x) (h0 : 0 ≤ x) (h1 : x ≤ 2 ^ (300 : Int)) : ∃ r, double.mul b 4611686018427387904 = some r ∧ V double r (x * 2) := by
  refine mul_exact (M := 301) (fits_double (by omega) (by omega)) h two_V64 ?_ ?_ ?_
  · have := p2_pos 301; grind
  · rw [show (2 : Rat) ^ (301 : Int) = 2 ^ (300 : Int) * 2 from by rw [show (301 : Int) = 300 + 1 from rfl, p2_add, Rat.zpow_one]]
    grind
  · obtain ⟨s, k, j, rfl, hk, hj⟩ := V_rep h
    refine ⟨s, k, j + 1, ?_, hk, by omega⟩
    rw [p2_add, Rat.zpow_one]
    cases s <;> simp only [sv] <;> grind
theorem sv_half (s : Bool) (x : Rat) : sv s x / 2 = sv s (x / 2) := by
  rw [Rat.div_def, Rat.div_def]
  cases s <;> simp [sv] <;> grind
theorem half_val (m : Nat) (i : Int) : (m : Rat) * 2 ^ i / 2 = (m : Rat) * 2 ^ (i - 1) := by
  have h1 := p2_add (i - 1) 1
  rw [Rat.zpow_one, show i - 1 + 1 = i by omega] at h1
  rw [h1, Rat.div_def]
  grind
theorem rep_lt {m : Nat} {s : Bool} {e : Int} {b : Nat} (h : double.read b = .number s m e) : m < 2 ^ 53 := by
  have hb : 0 < double.binade := by decide
  unfold Format.read at h
  dsimp only at h
  have h2 : double.binade = 4503599627370496 := by decide
  rw [h2] at h
  split at h
  · injection h with _ h1 h3
    subst h1
    omega
  · split at h
    · injection h with _ h1 h3
      subst h1
      have := Nat.mod_lt (b % double.signWeight) (show 0 < 4503599627370496 by omega)
      omega
    · split at h <;> cases h
/-- halved -/
theorem half_ok {b : Nat} {x : Rat} (h : V double b x) (h0 : 2 ^ (-100 : Int) ≤ x) (h1 : x ≤ 2 ^ (300 : Int)) : ∃ r, double.div b 4611686018427387904 = some r ∧ V double r (x / 2) := by
  have hrep := V_rep h
  obtain ⟨s, m, i, hq, rfl⟩ := h
  have hm2 := rep_lt hq
  have hp := p2_pos (-100)
  have hm0 : m ≠ 0 := by
    rintro rfl
    have e4 : ((0 : Nat) : Rat) = 0 := rfl
    rw [e4] at h0
    cases s <;> simp only [sv] at h0 <;> grind
  have hlog : m.log2 ≤ 52 := by
    have : m.log2 < 53 := (Nat.log2_lt hm0).2 hm2
    omega
  have htwo : double.read 4611686018427387904 = .number false 4503599627370496 (-51) := by decide
  obtain ⟨g, hg⟩ : ∃ g, 54 + Nat.log2 4503599627370496 - m.log2 = g + 52 := ⟨54 - m.log2, by rw [show Nat.log2 4503599627370496 = 52 by decide]; omega⟩
  have hd : m <<< (g + 52) = m * 2 ^ g * 4503599627370496 := by
    rw [Nat.shiftLeft_eq, Nat.pow_add, ← Nat.mul_assoc]
  have hdiv : double.div b 4611686018427387904 = some (double.write (.number (s ^^ false) (2 * (m * 2 ^ g) + 0) (i - (-51) - ((g + 52 : Nat) : Int) - 1))) := by
    unfold Format.div
    rw [hq, htwo]
    simp only [Datum.quotient, if_neg (show ¬ (4503599627370496 : Nat) = 0 by decide)]
    rw [show double.fractionBits + 2 = 54 from rfl, hg, hd, Nat.mul_div_cancel _ (by decide), Nat.mul_mod_left]
    rfl
  rw [hdiv, sv_half, half_val]
  rw [Bool.xor_false]
  have hx0 : 0 ≤ (m : Rat) * 2 ^ (i - 1) := Rat.mul_nonneg (by exact_mod_cast Nat.zero_le _) (Rat.le_of_lt (p2_pos _))
  have hx1 : (m : Rat) * 2 ^ (i - 1) * 2 = (m : Rat) * 2 ^ i := by rw [← half_val, Rat.div_mul_cancel (by decide)]
  have hP := p2_pos 300
  have hx2 : (m : Rat) * 2 ^ (i - 1) ≤ 2 ^ (300 : Int) := by
    cases s <;> simp only [sv] at h1 h0 <;> grind
  refine ⟨_, rfl, write_exact (M := 300) (fits_double (by omega) (by omega)) ?_ (sv_abs hx0 hx2).1 (sv_abs hx0 hx2).2 ?_⟩
  · congr 1
    rw [Nat.add_zero, Rat.natCast_mul, Rat.natCast_mul, show ((2 : Nat) : Rat) = 2 from rfl, ← p2_nat]
    have e1 : (2 : Rat) ^ (i - 1) = 2 * 2 ^ (g : Int) * 2 ^ (i - (-51) - ((g + 52 : Nat) : Int) - 1) := by
      have e2 : (2 : Rat) = 2 ^ (1 : Int) := by rw [Rat.zpow_one]
      rw [show (2 : Rat) * 2 ^ (g : Int) = 2 ^ ((1 : Int) + g) from by rw [p2_add, Rat.zpow_one], ← p2_add]
      congr 1
      omega
    rw [e1]
    grind
  · -- the place is high enough
    refine ⟨s, m, i - 1, rfl, Nat.lt_of_lt_of_le hm2 (by decide), ?_⟩
    have hs : s = false := by
      cases s
      · rfl
      · simp only [sv] at h0; grind
    subst hs
    simp only [sv, if_neg Bool.false_ne_true] at h0
    have hmr : (m : Rat) ≤ ((2 ^ 53 : Nat) : Rat) := nat_le.2 (Nat.le_of_lt hm2)
    have h2 := mul_le_right hmr (Rat.le_of_lt (p2_pos i))
    rw [← p2_nat, ← p2_add] at h2
    have h3 : (-100 : Int) ≤ (53 : Nat) + i := by
      rcases Int.lt_or_le ((53 : Nat) + i) (-100 : Int) with h | h
      · have h5 := p2_mono (show ((53 : Nat) : Int) + i + 1 ≤ -100 by omega)
        rw [p2_add, Rat.zpow_one] at h5
        have h6 := p2_pos (((53 : Nat) : Int) + i)
        grind
      · exact h
    have : double.leastPlace = -1074 := by decide
    rw [this]
    omega
end Go.Proofs.Ytlfffkjgepgcfaa.fl
