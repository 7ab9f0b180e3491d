/-
  What the float operations of the model give, as rationals: the nearest word lies within half a unit of what it stands for. Conditions: those of each theorem.
-/
import Derived.Laws.FloatArith
namespace Go.Proofs.Ytlfffkjgepgcfaa.fl
open Ieee

theorem p2_pos (e : Int) : (0 : Rat) < 2 ^ e := Rat.zpow_pos (by decide)
theorem p2_add (a b : Int) : (2 : Rat) ^ (a + b) = 2 ^ a * 2 ^ b := Rat.zpow_add (by decide) a b
theorem p2_nat (n : Nat) : (2 : Rat) ^ (n : Int) = ((2 ^ n : Nat) : Rat) := by rw [Rat.zpow_natCast, Rat.natCast_pow]; rfl
theorem p2_toNat {e : Int} (h : 0 ≤ e) : ((2 ^ e.toNat : Nat) : Rat) = 2 ^ e := by rw [← p2_nat, Int.toNat_of_nonneg h]
theorem nat_le {a b : Nat} : (a : Rat) ≤ (b : Rat) ↔ a ≤ b := Rat.natCast_le_natCast
theorem nat_lt {a b : Nat} : (a : Rat) < (b : Rat) ↔ a < b := Rat.natCast_lt_natCast
theorem p2_mono {a b : Int} (h : a ≤ b) : (2 : Rat) ^ a ≤ 2 ^ b := by
  obtain ⟨n, rfl⟩ : ∃ n : Nat, b = a + n := ⟨(b - a).toNat, by omega⟩
  rw [p2_add, p2_nat]
  have h1 := p2_pos a
  have h2 : (1 : Rat) ≤ ((2 ^ n : Nat) : Rat) := nat_le.2 (Nat.one_le_two_pow (n := n))
  have := Rat.mul_le_mul_of_nonneg_left h2 (Rat.le_of_lt h1)
  grind
theorem mul_le_right {a b c : Rat} (h : a ≤ b) (hc : 0 ≤ c) : a * c ≤ b * c := Rat.mul_le_mul_of_nonneg_right h hc
theorem le_of_mul {a b c : Rat} (h : a * c ≤ b * c) (hc : 0 < c) : a ≤ b := Rat.le_of_mul_le_mul_right h hc

/-- the cut to the nearest: within half a unit -/
theorem cut_near (neg : Bool) (n drop : Nat) : 2 * (Toward.even.cut neg n drop * 2 ^ drop) ≤ 2 * n + 2 ^ drop ∧ 2 * n ≤ 2 * (Toward.even.cut neg n drop * 2 ^ drop) + 2 ^ drop := by
  unfold Toward.cut
  simp only [Nat.one_shiftLeft]
  by_cases hd : drop ≤ n.log2 + 2
  · rw [Nat.min_eq_left hd]
    have hg : 0 < 2 ^ drop := Nat.two_pow_pos _
    generalize 2 ^ drop = g at *
    have h1 := Nat.div_add_mod n g
    have h2 := Nat.mod_lt n hg
    generalize n / g = low at *
    generalize n % g = rest at *
    have h3 : (low + 1) * g = g * low + g := by rw [Nat.add_mul, Nat.one_mul, Nat.mul_comm]
    have h4 : low * g = g * low := Nat.mul_comm _ _
    cases hm : (decide (g < 2 * rest) || g == 2 * rest && low % 2 == 1)
    · have h5 : ¬ g < 2 * rest := by
        intro h; simp [h] at hm
      simp only [Bool.toNat_false, Nat.add_zero]
      omega
    · have h5 : g ≤ 2 * rest := by
        simp at hm
        omega
      simp only [Bool.toNat_true, h3]
      omega
  · rw [Nat.min_eq_right (by omega)]
    have h1 : n < 2 ^ (n.log2 + 1) := Nat.lt_log2_self
    have h2 : 2 ^ (n.log2 + 2) = 2 * 2 ^ (n.log2 + 1) := by rw [Nat.pow_succ, Nat.mul_comm]
    have h3 : 2 ^ (n.log2 + 2) ≤ 2 ^ drop := Nat.pow_le_pow_right (by omega) (by omega)
    generalize 2 ^ (n.log2 + 1) = a at *
    rw [h2] at h3 ⊢
    rw [Nat.div_eq_of_lt (by omega), Nat.mod_eq_of_lt (by omega : n < 2 * a)]
    have h4 : ¬ 2 * a < 2 * n := by omega
    have h5 : (2 * a == 2 * n) = false := by simp; omega
    simp [h4]
    omega
theorem cut_hi {neg : Bool} {n drop k : Nat} (h : n ≤ k * 2 ^ drop) : Toward.even.cut neg n drop ≤ k := by
  have h1 := (cut_near neg n drop).1
  generalize Toward.even.cut neg n drop = c at *
  have hg : 0 < 2 ^ drop := Nat.two_pow_pos _
  generalize 2 ^ drop = g at *
  rcases Nat.lt_or_ge k c with hk | hk
  · have : (k + 1) * g ≤ c * g := Nat.mul_le_mul_right g hk
    rw [Nat.add_mul] at this
    omega
  · exact hk
theorem cut_lo {neg : Bool} {n drop k : Nat} (h : k * 2 ^ drop ≤ n) : k ≤ Toward.even.cut neg n drop := by
  have h1 := (cut_near neg n drop).2
  generalize Toward.even.cut neg n drop = c at *
  have hg : 0 < 2 ^ drop := Nat.two_pow_pos _
  generalize 2 ^ drop = g at *
  rcases Nat.lt_or_ge c k with hk | hk
  · have : (c + 1) * g ≤ k * g := Nat.mul_le_mul_right g hk
    rw [Nat.add_mul] at this
    omega
  · exact hk

/-- a word of a sign and a rung, read -/
theorem read_word (f : Format) (neg : Bool) (rung : Nat) (h : rung < f.infRung) :
    f.read (f.word neg rung) = if rung < f.binade then .number neg rung f.leastPlace else .number neg (f.binade + rung % f.binade) (f.leastPlace + (rung / f.binade - 1 : Nat)) := by
  have hs := f.infRung_lt
  have e1 : (f.word neg rung / f.signWeight % 2 == 1) = neg := by
    unfold Format.word
    cases neg
    · rw [if_neg (by simp), Nat.div_eq_of_lt (by omega)]; rfl
    · rw [if_pos rfl, Nat.add_div_left _ (by omega), Nat.div_eq_of_lt (by omega)]; rfl
  have e2 : f.word neg rung % f.signWeight = rung := by
    unfold Format.word
    cases neg
    · rw [if_neg (by simp), Nat.mod_eq_of_lt (by omega)]
    · rw [if_pos rfl, Nat.add_mod_left, Nat.mod_eq_of_lt (by omega)]
  unfold Format.read
  simp only [e1, e2, if_pos h]

def sv (s : Bool) (x : Rat) : Rat := if s then -x else x
/-- the word b stands for the number x -/
def V (f : Format) (b : Nat) (x : Rat) : Prop := ∃ s m e, f.read b = .number s m e ∧ x = sv s ((m : Rat) * 2 ^ e)

/-- what is written, read: within half a unit of its last place -/
theorem nearest_ok (f : Format) (neg : Bool) (mag : Nat) (place M : Int) (hM0 : f.leastPlace + f.fractionBits ≤ M)
    (hM1 : M - f.fractionBits - f.leastPlace + 2 < (2 : Int) ^ f.exponentBits - 1) (hv : (mag : Rat) * 2 ^ place ≤ 2 ^ M) :
    ∃ m e, f.read (f.nearest neg mag place) = .number neg m e ∧ (m : Rat) * 2 ^ e ≤ 2 ^ M ∧
      2 * ((m : Rat) * 2 ^ e) ≤ 2 * ((mag : Rat) * 2 ^ place) + 2 ^ (M - f.fractionBits) ∧ 2 * ((mag : Rat) * 2 ^ place) ≤ 2 * ((m : Rat) * 2 ^ e) + 2 ^ (M - f.fractionBits) ∧
      (∀ K : Int, f.leastPlace ≤ K → (2 : Rat) ^ K ≤ (mag : Rat) * 2 ^ place → (2 : Rat) ^ K ≤ (m : Rat) * 2 ^ e) ∧ (mag = 0 → m = 0) := by
  have hr0 : 0 < f.infRung := by
    have h1 : ((2 ^ f.exponentBits : Nat) : Int) = (2 : Int) ^ f.exponentBits := by simp
    exact Nat.mul_pos (by omega) (Nat.two_pow_pos _)
  by_cases hm : mag = 0
  · subst hm
    refine ⟨0, f.leastPlace, ?_, ?_, ?_, ?_, ?_, ?_⟩
    · unfold Format.nearest
      rw [if_pos rfl, read_word f neg 0 hr0]
      rw [if_pos (show 0 < f.binade from Nat.two_pow_pos _)]
    · have := p2_pos M; grind
    · have := p2_pos (M - f.fractionBits); grind
    · have := p2_pos (M - f.fractionBits); grind
    · intro K _ h; have := p2_pos K; grind
    · exact fun _ => rfl
  unfold Format.nearest
  rw [if_neg hm]
  dsimp only
  generalize hL : max (place + mag.log2 - f.fractionBits) f.leastPlace = L
  generalize hn : mag <<< (place - L).toNat = n
  generalize hd : (L - place).toNat = drop
  have hnn : n = mag * 2 ^ (place - L).toNat := by rw [← hn, Nat.shiftLeft_eq]
  -- n units of 2^L over 2^drop
  have hu : (n : Rat) * 2 ^ L = (mag : Rat) * 2 ^ place * ((2 ^ drop : Nat) : Rat) := by
    rw [hnn, Rat.natCast_mul]
    rcases Int.le_total L place with h | h
    · rw [p2_toNat (by omega), show drop = 0 by omega, Rat.mul_assoc, ← p2_add, show place - L + L = place by omega]
      simp
    · rw [show (place - L).toNat = 0 by omega, ← hd, p2_toNat (by omega), Rat.mul_assoc, Rat.mul_assoc, ← p2_add, show place + (L - place) = L by omega]
      simp
  have hlog : 2 ^ mag.log2 ≤ mag := Nat.log2_self_le hm
  have hlog2 : mag < 2 ^ (mag.log2 + 1) := Nat.lt_log2_self
  have hLM : L ≤ M - f.fractionBits := by
    -- 2^(place+log2) ≤ 2^M
    have h1 : ((2 ^ mag.log2 : Nat) : Rat) * 2 ^ place ≤ 2 ^ M := Rat.le_trans (mul_le_right (nat_le.2 hlog) (Rat.le_of_lt (p2_pos _))) hv
    rw [← p2_nat, ← p2_add] at h1
    have h2 : (mag.log2 : Int) + place ≤ M := by
      rcases Int.lt_or_le M (mag.log2 + place) with h | h
      · have := p2_mono (show M + 1 ≤ mag.log2 + place by omega)
        rw [p2_add] at this
        have h3 := p2_pos M
        have : (2 : Rat) ^ (1 : Int) = 2 := by rw [Rat.zpow_one]
        grind
      · exact h
    omega
  have hk1 : Toward.even.cut neg n drop ≤ 2 * f.binade := by
    apply cut_hi
    have : (n : Rat) * 2 ^ L ≤ ((2 * f.binade * 2 ^ drop : Nat) : Rat) * 2 ^ L := by
      rw [hu, Rat.natCast_mul, Rat.mul_assoc, Rat.mul_assoc, Rat.mul_comm ((2 ^ drop : Nat) : Rat), ← Rat.mul_assoc, ← Rat.mul_assoc]
      refine mul_le_right ?_ (by exact_mod_cast Nat.zero_le _)
      have h1 : (mag : Rat) * 2 ^ place ≤ ((2 ^ (mag.log2 + 1) : Nat) : Rat) * 2 ^ place := mul_le_right (nat_le.2 (Nat.le_of_lt hlog2)) (Rat.le_of_lt (p2_pos _))
      refine Rat.le_trans h1 ?_
      rw [← p2_nat, ← p2_add, show 2 * f.binade = 2 ^ (f.fractionBits + 1) by unfold Format.binade; rw [Nat.pow_succ, Nat.mul_comm], ← p2_nat, ← p2_add]
      exact p2_mono (by omega)
    exact nat_le.1 (le_of_mul this (p2_pos _))
  have hk2 : f.leastPlace < L → f.binade ≤ Toward.even.cut neg n drop := by
    intro hlt
    apply cut_lo
    have : ((f.binade * 2 ^ drop : Nat) : Rat) * 2 ^ L ≤ (n : Rat) * 2 ^ L := by
      rw [hu, Rat.natCast_mul, Rat.mul_assoc, Rat.mul_comm ((2 ^ drop : Nat) : Rat), ← Rat.mul_assoc]
      refine mul_le_right ?_ (by exact_mod_cast Nat.zero_le _)
      have h1 : ((2 ^ mag.log2 : Nat) : Rat) * 2 ^ place ≤ (mag : Rat) * 2 ^ place := mul_le_right (nat_le.2 hlog) (Rat.le_of_lt (p2_pos _))
      refine Rat.le_trans ?_ h1
      rw [← p2_nat, ← p2_add, show f.binade = 2 ^ f.fractionBits by rfl, ← p2_nat, ← p2_add]
      exact p2_mono (by omega)
    exact nat_le.1 (le_of_mul this (p2_pos _))
  have hnear := cut_near neg n drop
  have hhi : ∀ k : Nat, (mag : Rat) * 2 ^ place ≤ (k : Rat) * 2 ^ L → Toward.even.cut neg n drop ≤ k := by
    intro k hk
    apply cut_hi
    have : (n : Rat) * 2 ^ L ≤ ((k * 2 ^ drop : Nat) : Rat) * 2 ^ L := by
      rw [hu, Rat.natCast_mul, Rat.mul_assoc (k : Rat), Rat.mul_comm ((2 ^ drop : Nat) : Rat), ← Rat.mul_assoc]
      exact mul_le_right hk (by exact_mod_cast Nat.zero_le _)
    exact nat_le.1 (le_of_mul this (p2_pos _))
  have hlo : ∀ k : Nat, (k : Rat) * 2 ^ L ≤ (mag : Rat) * 2 ^ place → k ≤ Toward.even.cut neg n drop := by
    intro k hk
    apply cut_lo
    have : ((k * 2 ^ drop : Nat) : Rat) * 2 ^ L ≤ (n : Rat) * 2 ^ L := by
      rw [hu, Rat.natCast_mul, Rat.mul_assoc, Rat.mul_comm ((2 ^ drop : Nat) : Rat), ← Rat.mul_assoc]
      exact mul_le_right hk (by exact_mod_cast Nat.zero_le _)
    exact nat_le.1 (le_of_mul this (p2_pos _))
  generalize hkept : Toward.even.cut neg n drop = kept at *
  have hLl : f.leastPlace ≤ L := by omega
  have hb : 0 < f.binade := Nat.two_pow_pos _
  -- in rationals
  have hd0 : (0 : Rat) < ((2 ^ drop : Nat) : Rat) := by have := nat_lt.2 (Nat.two_pow_pos drop); simpa using this
  have hr1 : 2 * ((kept : Rat) * 2 ^ L) ≤ 2 * ((mag : Rat) * 2 ^ place) + 2 ^ L := by
    have h1 : ((2 * (kept * 2 ^ drop) : Nat) : Rat) ≤ ((2 * n + 2 ^ drop : Nat) : Rat) := nat_le.2 hnear.1
    rw [Rat.natCast_mul, Rat.natCast_mul, Rat.natCast_add, Rat.natCast_mul] at h1
    have h2 := mul_le_right h1 (Rat.le_of_lt (p2_pos L))
    refine le_of_mul ?_ hd0
    generalize ((2 ^ drop : Nat) : Rat) = D at *
    generalize (2 : Rat) ^ L = U at *
    generalize (mag : Rat) * 2 ^ place = v at *
    have h3 : ((2 : Nat) : Rat) = 2 := rfl
    rw [h3] at h2
    grind
  have hr2 : 2 * ((mag : Rat) * 2 ^ place) ≤ 2 * ((kept : Rat) * 2 ^ L) + 2 ^ L := by
    have h1 : ((2 * n : Nat) : Rat) ≤ ((2 * (kept * 2 ^ drop) + 2 ^ drop : Nat) : Rat) := nat_le.2 hnear.2
    rw [Rat.natCast_mul, Rat.natCast_add, Rat.natCast_mul, Rat.natCast_mul] at h1
    have h2 := mul_le_right h1 (Rat.le_of_lt (p2_pos L))
    refine le_of_mul ?_ hd0
    generalize ((2 ^ drop : Nat) : Rat) = D at *
    generalize (2 : Rat) ^ L = U at *
    generalize (mag : Rat) * 2 ^ place = v at *
    have h3 : ((2 : Nat) : Rat) = 2 := rfl
    rw [h3] at h2
    grind
  have hU : (2 : Rat) ^ L ≤ 2 ^ (M - f.fractionBits) := p2_mono hLM
  have hM : (kept : Rat) * 2 ^ L ≤ 2 ^ M := by
    have h1 : (2 : Rat) ^ M = ((2 ^ (M - L).toNat : Nat) : Rat) * 2 ^ L := by
      rw [p2_toNat (by omega), ← p2_add]; congr 1; omega
    rw [h1]
    refine mul_le_right (nat_le.2 (hhi _ ?_)) (Rat.le_of_lt (p2_pos _))
    rw [← h1]; exact hv
  have hK : ∀ K : Int, f.leastPlace ≤ K → (2 : Rat) ^ K ≤ (mag : Rat) * 2 ^ place → (2 : Rat) ^ K ≤ (kept : Rat) * 2 ^ L := by
    intro K hK h
    rcases Int.lt_or_le K L with hlt | hge
    · have h1 := hk2 (by omega)
      have h2 : (2 : Rat) ^ (f.fractionBits + L) ≤ (kept : Rat) * 2 ^ L := by
        rw [p2_add, p2_nat]
        exact mul_le_right (nat_le.2 h1) (Rat.le_of_lt (p2_pos _))
      exact Rat.le_trans (p2_mono (by omega)) h2
    · have h1 : (2 : Rat) ^ K = ((2 ^ (K - L).toNat : Nat) : Rat) * 2 ^ L := by
        rw [p2_toNat (by omega), ← p2_add]; congr 1; omega
      rw [h1]
      refine mul_le_right (nat_le.2 (hlo _ ?_)) (Rat.le_of_lt (p2_pos _))
      rw [← h1]; exact h
  -- the rung
  have hrung : (L - f.leastPlace).toNat * f.binade + kept < f.infRung := by
    unfold Format.infRung
    have h1 : (L - f.leastPlace).toNat + 2 < 2 ^ f.exponentBits - 1 := by
      have : ((2 ^ f.exponentBits : Nat) : Int) = (2 : Int) ^ f.exponentBits := by simp
      omega
    have h2 : ((L - f.leastPlace).toNat + 3) * f.binade ≤ (2 ^ f.exponentBits - 1) * f.binade := Nat.mul_le_mul_right _ (by omega)
    rw [Nat.add_mul] at h2
    omega
  rw [Nat.min_eq_left (Nat.le_of_lt hrung), read_word f neg _ hrung]
  have fin : ∀ m e, (if (L - f.leastPlace).toNat * f.binade + kept < f.binade then Datum.number neg ((L - f.leastPlace).toNat * f.binade + kept) f.leastPlace
      else .number neg (f.binade + ((L - f.leastPlace).toNat * f.binade + kept) % f.binade) (f.leastPlace + (((L - f.leastPlace).toNat * f.binade + kept) / f.binade - 1 : Nat))) = .number neg m e → (m : Rat) * 2 ^ e = (kept : Rat) * 2 ^ L → ∃ m e, (if (L - f.leastPlace).toNat * f.binade + kept < f.binade then Datum.number neg ((L - f.leastPlace).toNat * f.binade + kept) f.leastPlace
      else .number neg (f.binade + ((L - f.leastPlace).toNat * f.binade + kept) % f.binade) (f.leastPlace + (((L - f.leastPlace).toNat * f.binade + kept) / f.binade - 1 : Nat))) = .number neg m e ∧ (m : Rat) * 2 ^ e ≤ 2 ^ M ∧
      2 * ((m : Rat) * 2 ^ e) ≤ 2 * ((mag : Rat) * 2 ^ place) + 2 ^ (M - f.fractionBits) ∧ 2 * ((mag : Rat) * 2 ^ place) ≤ 2 * ((m : Rat) * 2 ^ e) + 2 ^ (M - f.fractionBits) ∧
      (∀ K : Int, f.leastPlace ≤ K → (2 : Rat) ^ K ≤ (mag : Rat) * 2 ^ place → (2 : Rat) ^ K ≤ (m : Rat) * 2 ^ e) ∧ (mag = 0 → m = 0) := by
    intro m e h1 h2
    exact ⟨m, e, h1, by rw [h2]; exact hM, by rw [h2]; grind, by rw [h2]; grind, by rw [h2]; exact hK, fun h => absurd h hm⟩
  rcases Nat.lt_or_ge kept f.binade with hkb | hkb
  · have hL0 : L = f.leastPlace := by
      rcases Int.lt_or_le f.leastPlace L with h | h
      · have := hk2 h; omega
      · omega
    subst hL0
    refine fin kept f.leastPlace ?_ rfl
    rw [Int.sub_self, Int.toNat_zero, Nat.zero_mul, Nat.zero_add, if_pos hkb]
  · obtain ⟨j, hj⟩ : ∃ j : Nat, L = f.leastPlace + j := ⟨(L - f.leastPlace).toNat, by omega⟩
    have hjn : (L - f.leastPlace).toNat = j := by omega
    rw [hjn] at fin ⊢
    have hge : ¬ j * f.binade + kept < f.binade := by omega
    rcases Nat.lt_or_ge kept (2 * f.binade) with hk3 | hk3
    · refine fin kept L ?_ rfl
      rw [if_neg hge]
      have e1 : (j * f.binade + kept) % f.binade = kept - f.binade := by
        rw [Nat.add_comm, Nat.add_mul_mod_self_right, Nat.mod_eq_sub_mod hkb, Nat.mod_eq_of_lt (by omega)]
      have e2 : (j * f.binade + kept) / f.binade = j + 1 := by
        rw [Nat.add_comm, Nat.add_mul_div_right _ _ hb, Nat.div_eq_of_lt_le (k := 1) (by omega) (by omega), Nat.add_comm]
      rw [e1, e2, show f.binade + (kept - f.binade) = kept by omega, show f.leastPlace + ((j + 1 - 1 : Nat) : Int) = L by rw [hj]; simp]
    · have hk4 : kept = 2 * f.binade := by omega
      refine fin f.binade (L + 1) ?_ ?_
      · rw [if_neg hge]
        have e1 : (j * f.binade + kept) % f.binade = 0 := by
          rw [hk4, ← Nat.add_mul, Nat.mul_mod_left]
        have e2 : (j * f.binade + kept) / f.binade = j + 2 := by
          rw [hk4, ← Nat.add_mul, Nat.mul_div_cancel _ hb]
        rw [e1, e2, Nat.add_zero, show f.leastPlace + ((j + 2 - 1 : Nat) : Int) = L + 1 by rw [hj]; omega]
      · rw [hk4, p2_add, Rat.zpow_one, Rat.natCast_mul]
        have h3 : ((2 : Nat) : Rat) = 2 := rfl
        rw [h3]; grind

theorem sv_abs {s : Bool} {x y : Rat} (hx : 0 ≤ x) (h : x ≤ y) : -y ≤ sv s x ∧ sv s x ≤ y := by
  unfold sv; split <;> constructor <;> grind
/-- the word of a number of sign s and size 'mag * 2^place' -/
theorem write_ok (f : Format) (s : Bool) (mag : Nat) (place M : Int) (hM0 : f.leastPlace + f.fractionBits ≤ M)
    (hM1 : M - f.fractionBits - f.leastPlace + 2 < (2 : Int) ^ f.exponentBits - 1) (x : Rat) (hx : x = sv s ((mag : Rat) * 2 ^ place)) (h1 : -2 ^ M ≤ x) (h2 : x ≤ 2 ^ M) :
    ∃ z, V f (f.write (.number s mag place)) z ∧ -2 ^ M ≤ z ∧ z ≤ 2 ^ M ∧ 2 * z ≤ 2 * x + 2 ^ (M - f.fractionBits) ∧ 2 * x ≤ 2 * z + 2 ^ (M - f.fractionBits) ∧
      (0 ≤ x → 0 ≤ z) ∧ (x ≤ 0 → z ≤ 0) ∧ (∀ K : Int, f.leastPlace ≤ K → (2 : Rat) ^ K ≤ x → (2 : Rat) ^ K ≤ z) := by
  have hp : (0 : Rat) ≤ (mag : Rat) * 2 ^ place := Rat.mul_nonneg (by exact_mod_cast Nat.zero_le _) (Rat.le_of_lt (p2_pos _))
  have hv : (mag : Rat) * 2 ^ place ≤ 2 ^ M := by
    subst hx
    unfold sv at h1 h2
    split at h1 <;> grind
  obtain ⟨m, e, hr, a1, a2, a3, a4, a5⟩ := nearest_ok f s mag place M hM0 hM1 hv
  have hq : (0 : Rat) ≤ (m : Rat) * 2 ^ e := Rat.mul_nonneg (by exact_mod_cast Nat.zero_le _) (Rat.le_of_lt (p2_pos _))
  have hz : (mag : Rat) * 2 ^ place ≤ 0 → (m : Rat) * 2 ^ e ≤ 0 := by
    intro h
    have h0 : mag = 0 := by
      rcases Nat.eq_zero_or_pos mag with h0 | h0
      · exact h0
      · have h1 : (1 : Rat) ≤ (mag : Rat) := by exact_mod_cast h0
        have h2 := mul_le_right h1 (Rat.le_of_lt (p2_pos place))
        have := p2_pos place
        grind
    rw [a5 h0]; have := p2_pos e; grind
  refine ⟨sv s ((m : Rat) * 2 ^ e), ⟨s, m, e, hr, rfl⟩, (sv_abs hq a1).1, (sv_abs hq a1).2, ?_⟩
  subst hx
  have hM := p2_pos (M - f.fractionBits)
  generalize (m : Rat) * 2 ^ e = q at *
  generalize (mag : Rat) * 2 ^ place = p at *
  cases s
  · simp only [sv, if_neg Bool.false_ne_true] at *
    exact ⟨a2, a3, fun _ => hq, hz, a4⟩
  · simp only [sv] at *
    refine ⟨by grind, by grind, fun h => by grind, fun h => by grind, fun K hK h => ?_⟩
    have := p2_pos K; grind

theorem V_fun {f : Format} {b : Nat} {x y : Rat} (h : V f b x) (k : V f b y) : x = y := by
  obtain ⟨s, m, e, h1, rfl⟩ := h
  obtain ⟨t, n, i, h2, rfl⟩ := k
  rw [h1] at h2
  cases h2
  rfl
/-- r is the word nearest to x, a number of size up to 2^M -/
def Nr (f : Format) (M : Int) (x : Rat) (r : Nat) : Prop := ∃ z, V f r z ∧ -2 ^ M ≤ z ∧ z ≤ 2 ^ M ∧ 2 * z ≤ 2 * x + 2 ^ (M - f.fractionBits) ∧ 2 * x ≤ 2 * z + 2 ^ (M - f.fractionBits) ∧
      (0 ≤ x → 0 ≤ z) ∧ (x ≤ 0 → z ≤ 0) ∧ (∀ K : Int, f.leastPlace ≤ K → (2 : Rat) ^ K ≤ x → (2 : Rat) ^ K ≤ z)
def Fits (f : Format) (M : Int) : Prop := f.leastPlace + f.fractionBits ≤ M ∧ M - f.fractionBits - f.leastPlace + 2 < (2 : Int) ^ f.exponentBits - 1
theorem fits_single {M : Int} (h1 : -126 ≤ M) (h2 : M < 126) : Fits single M := by
  unfold Fits single Format.leastPlace; simp; omega
theorem fits_double {M : Int} (h1 : -1022 ≤ M) (h2 : M < 1022) : Fits double M := by
  unfold Fits double Format.leastPlace; simp; omega
theorem write_nr {f : Format} {M : Int} (hM : Fits f M) {s : Bool} {mag : Nat} {place : Int} {x : Rat} (hx : x = sv s ((mag : Rat) * 2 ^ place)) (h1 : -2 ^ M ≤ x) (h2 : x ≤ 2 ^ M) : Nr f M x (f.write (.number s mag place)) :=
  write_ok f s mag place M hM.1 hM.2 x hx h1 h2

theorem sv_mul (s t : Bool) (x y : Rat) : sv (s ^^ t) (x * y) = sv s x * sv t y := by
  cases s <;> cases t <;> simp [sv] <;> grind
theorem mul_nr {f : Format} {M : Int} (hM : Fits f M) {a b : Nat} {x y : Rat} (ha : V f a x) (hb : V f b y) (h1 : -2 ^ M ≤ x * y) (h2 : x * y ≤ 2 ^ M) : ∃ r, f.mul a b = some r ∧ Nr f M (x * y) r := by
  obtain ⟨s, m, e, hr, rfl⟩ := ha
  obtain ⟨t, n, i, hq, rfl⟩ := hb
  refine ⟨_, by unfold Format.mul; rw [hr, hq]; rfl, write_nr hM ?_ h1 h2⟩
  rw [← sv_mul, p2_add, Rat.natCast_mul]
  congr 1
  grind
theorem signed_val (s : Bool) (m : Nat) (e b : Int) (h : b ≤ e) : ((signed s m (e - b).toNat : Int) : Rat) * 2 ^ b = sv s ((m : Rat) * 2 ^ e) := by
  have : ((m <<< (e - b).toNat : Nat) : Rat) * 2 ^ b = (m : Rat) * 2 ^ e := by
    rw [Nat.shiftLeft_eq, Rat.natCast_mul, p2_toNat (by omega), Rat.mul_assoc, ← p2_add]
    congr 2; omega
  unfold signed sv
  cases s
  · rw [if_neg Bool.false_ne_true, if_neg Bool.false_ne_true]; exact this
  · rw [if_pos rfl, if_pos rfl, ← this, Rat.intCast_neg]
    have h2 : (((m <<< (e - b).toNat : Nat) : Int) : Rat) = ((m <<< (e - b).toNat : Nat) : Rat) := rfl
    rw [h2]
    grind
theorem natAbs_val (t : Int) (z : Bool) (b : Int) : sv (if t = 0 then z else decide (t < 0)) ((t.natAbs : Rat) * 2 ^ b) = (t : Rat) * 2 ^ b := by
  by_cases h0 : t = 0
  · subst h0; cases z <;> simp [sv]
  · rw [if_neg h0]
    by_cases h1 : t < 0
    · simp only [sv, h1, decide_true, if_pos]
      have : ((t.natAbs : Int) : Rat) = ((-t : Int) : Rat) := by congr 1; omega
      rw [show ((t.natAbs : Nat) : Rat) = ((t.natAbs : Int) : Rat) from rfl, this, Rat.intCast_neg]; grind
    · simp only [sv, h1, decide_false]
      have : ((t.natAbs : Int) : Rat) = (t : Rat) := by congr 1; omega
      rw [show ((t.natAbs : Nat) : Rat) = ((t.natAbs : Int) : Rat) from rfl, this]; rfl
theorem sum_val (s t : Bool) (m n : Nat) (e i : Int) : ∃ z g p, Datum.sum (.number s m e) (.number t n i) = some (.number z g p) ∧ sv z ((g : Rat) * 2 ^ p) = sv s ((m : Rat) * 2 ^ e) + sv t ((n : Rat) * 2 ^ i) := by
  refine ⟨_, _, _, rfl, ?_⟩
  rw [← signed_val s m e (min e i) (by omega), ← signed_val t n i (min e i) (by omega), ← Rat.add_mul, ← Rat.intCast_add]
  exact natAbs_val _ _ _
theorem add_nr {f : Format} {M : Int} (hM : Fits f M) {a b : Nat} {x y : Rat} (ha : V f a x) (hb : V f b y) (h1 : -2 ^ M ≤ x + y) (h2 : x + y ≤ 2 ^ M) : ∃ r, f.add a b = some r ∧ Nr f M (x + y) r := by
  obtain ⟨s, m, e, hr, rfl⟩ := ha
  obtain ⟨t, n, i, hq, rfl⟩ := hb
  obtain ⟨z, g, p, hs, hv⟩ := sum_val s t m n e i
  refine ⟨_, by unfold Format.add; rw [hr, hq, hs]; rfl, write_nr hM hv.symm h1 h2⟩
theorem sv_not (s : Bool) (x : Rat) : sv (!s) x = - sv s x := by cases s <;> simp [sv]
theorem sub_nr {f : Format} {M : Int} (hM : Fits f M) {a b : Nat} {x y : Rat} (ha : V f a x) (hb : V f b y) (h1 : -2 ^ M ≤ x - y) (h2 : x - y ≤ 2 ^ M) : ∃ r, f.sub a b = some r ∧ Nr f M (x - y) r := by
  obtain ⟨s, m, e, hr, rfl⟩ := ha
  obtain ⟨t, n, i, hq, rfl⟩ := hb
  obtain ⟨z, g, p, hs, hv⟩ := sum_val s (!t) m n e i
  refine ⟨_, by unfold Format.sub; rw [hr, hq]; simp only [Datum.opposite]; rw [hs]; rfl, write_nr hM ?_ h1 h2⟩
  rw [hv, sv_not]; grind
theorem int_nr {k : FloatKind} {M : Int} (hM : Fits k.format M) {n : Int} (h1 : -2 ^ M ≤ (n : Rat)) (h2 : (n : Rat) ≤ 2 ^ M) : Nr k.format M (n : Rat) (k.nearest n) := by
  refine write_nr hM ?_ h1 h2
  have := natAbs_val n false 0
  rw [Rat.zpow_zero, Rat.mul_one, Rat.mul_one] at this
  rw [Rat.zpow_zero, Rat.mul_one, ← this]
  congr 1
  by_cases h0 : n = 0
  · subst h0; rfl
  · rw [if_neg h0]
/-- the order of words is the order of numbers -/
theorem order_val {f : Format} {a b : Nat} {x y : Rat} (ha : V f a x) (hb : V f b y) : f.order a b = some (if x < y then .lt else if x = y then .eq else .gt) := by
  obtain ⟨s, m, e, hr, rfl⟩ := ha
  obtain ⟨t, n, i, hq, rfl⟩ := hb
  unfold Format.order
  rw [hr, hq]
  show some (compare (signed s m (e - min e i).toNat) (signed t n (i - min e i).toNat)) = _
  rw [← signed_val s m e (min e i) (by omega), ← signed_val t n i (min e i) (by omega)]
  generalize signed s m (e - min e i).toNat = p
  generalize signed t n (i - min e i).toNat = q
  have hU := p2_pos (min e i)
  generalize (2 : Rat) ^ (min e i) = U at *
  congr 1
  show compareOfLessAndEq p q = _
  unfold compareOfLessAndEq
  by_cases h1 : p < q
  · rw [if_pos h1, if_pos]
    have h2 := Rat.intCast_lt_intCast.2 h1
    exact Rat.mul_lt_mul_of_pos_right h2 hU
  · have h3 : ¬ (p : Rat) * U < (q : Rat) * U := by
      intro h
      exact h1 (Rat.intCast_lt_intCast.1 (Rat.lt_of_mul_lt_mul_right h (Rat.le_of_lt hU)))
    rw [if_neg h1, if_neg h3]
    by_cases h4 : p = q
    · rw [if_pos h4, if_pos (by rw [h4])]
    · rw [if_neg h4, if_neg]
      intro h
      have h5 : (p : Rat) = (q : Rat) := Rat.le_antisymm (le_of_mul (h ▸ Rat.le_refl) hU) (le_of_mul (h ▸ Rat.le_refl) hU)
      exact h4 (Rat.intCast_inj.1 h5)
theorem sv_div (s t : Bool) (x y : Rat) : sv s x / sv t y = sv (s ^^ t) (x / y) := by
  rw [Rat.div_def, Rat.div_def]
  cases s <;> cases t <;> simp [sv] <;> grind
theorem div_core (m n more : Nat) (i j : Int) (hn : n ≠ 0) : ((m : Rat) * 2 ^ i) / ((n : Rat) * 2 ^ j) = ((m <<< more : Nat) : Rat) / (n : Rat) * 2 ^ (i - j - more) := by
  have hn' : (n : Rat) ≠ 0 := by
    intro h
    exact hn (Rat.natCast_inj.1 (by rw [h]; rfl))
  have h1 := p2_pos j
  have h3 : (2 : Rat) ^ i = 2 ^ (i - j - more) * ((2 ^ more : Nat) : Rat) * 2 ^ j := by
    rw [← p2_nat, ← p2_add, ← p2_add]; congr 1; omega
  rw [Nat.shiftLeft_eq, Rat.natCast_mul, h3]
  generalize (2 : Rat) ^ (i - j - more) = U at *
  generalize ((2 ^ more : Nat) : Rat) = W at *
  generalize (2 : Rat) ^ j = J at *
  have hJ : J ≠ 0 := by grind
  grind
/-- the quotient's digits: half a unit at most from the quotient, and the unit is small -/
theorem quo_core (digits m n : Nat) (hd : 1 ≤ digits) (hm : m ≠ 0) (hn : n ≠ 0) : let more := digits + n.log2 - m.log2
    let d := m <<< more
    2 ^ (digits - 1) ≤ d / n ∧ ∃ q : Rat, q = (d : Rat) / (n : Rat) ∧ (((2 * (d / n) + (d % n != 0).toNat : Nat) : Rat)) ≤ 2 * q + 1 ∧ 2 * q ≤ (((2 * (d / n) + (d % n != 0).toNat : Nat) : Rat)) + 1 ∧ ((d / n : Nat) : Rat) ≤ q ∧
      ∀ k : Nat, q ≤ (k : Rat) → 2 * (d / n) + (d % n != 0).toNat ≤ 2 * k := by
  intro more d
  have hn' : (0 : Rat) < (n : Rat) := by exact_mod_cast Nat.pos_of_ne_zero hn
  have h1 : 2 ^ m.log2 ≤ m := Nat.log2_self_le hm
  have h2 : n < 2 ^ (n.log2 + 1) := Nat.lt_log2_self
  have hdd : d = m * 2 ^ more := Nat.shiftLeft_eq ..
  have h3 : 2 ^ (digits + n.log2) ≤ d := by
    rw [hdd]
    refine Nat.le_trans ?_ (Nat.mul_le_mul_right _ h1)
    rw [← Nat.pow_add]
    exact Nat.pow_le_pow_right (by omega) (by omega)
  have h4 : 2 ^ (digits - 1) ≤ d / n := by
    rw [Nat.le_div_iff_mul_le (Nat.pos_of_ne_zero hn)]
    refine Nat.le_trans (Nat.mul_le_mul_left _ (Nat.le_of_lt h2)) ?_
    rw [← Nat.pow_add, show digits - 1 + (n.log2 + 1) = digits + n.log2 by omega]
    exact h3
  refine ⟨h4, (d : Rat) / (n : Rat), rfl, ?_⟩
  have hdm := Nat.div_add_mod d n
  have hmod := Nat.mod_lt d (Nat.pos_of_ne_zero hn)
  have hq : (d : Rat) / (n : Rat) * (n : Rat) = (d : Rat) := by
    rw [Rat.div_mul_cancel]; grind
  generalize d / n = fl at *
  generalize hr : d % n = r at *
  generalize (d : Rat) / (n : Rat) = q at *
  have e1 : (d : Rat) = (n : Rat) * (fl : Rat) + (r : Rat) := by rw [← hdm, Rat.natCast_add, Rat.natCast_mul]
  have hr0 : (0 : Rat) ≤ (r : Rat) := by exact_mod_cast Nat.zero_le r
  have hrn : (r : Rat) < (n : Rat) := nat_lt.2 hmod
  -- fl ≤ q < fl + 1
  have a1 : (fl : Rat) ≤ q := le_of_mul (c := (n : Rat)) (by rw [hq, e1]; grind) hn'
  have a2 : q < (fl : Rat) + 1 := by
    refine Rat.lt_of_mul_lt_mul_right (c := (n : Rat)) ?_ (Rat.le_of_lt hn')
    rw [hq, e1]; grind
  rw [Rat.natCast_add, Rat.natCast_mul]
  have h22 : ((2 : Nat) : Rat) = 2 := rfl
  rw [h22]
  by_cases h0 : r = 0
  · subst h0
    have e2 : ((0 != 0 : Bool)).toNat = 0 := rfl
    have e3 : q = (fl : Rat) := by
      have e4 : ((0 : Nat) : Rat) = 0 := rfl
      rw [e4] at e1
      have : q * (n : Rat) = (fl : Rat) * (n : Rat) := by rw [hq, e1]; grind
      exact Rat.le_antisymm (le_of_mul (this ▸ Rat.le_refl) hn') (le_of_mul (this ▸ Rat.le_refl) hn')
    rw [e2, e3]
    have e4 : ((0 : Nat) : Rat) = 0 := rfl
    rw [e4]
    refine ⟨by grind, by grind, Rat.le_refl, fun k hk => ?_⟩
    have := nat_le.1 hk
    omega
  · have e2 : (r != 0).toNat = 1 := by rw [bne_iff_ne.2 h0]; rfl
    rw [e2]
    have e4 : ((1 : Nat) : Rat) = 1 := rfl
    rw [e4]
    refine ⟨by grind, by grind, a1, fun k hk => ?_⟩
    have hpos : (0 : Rat) < (r : Rat) := by exact_mod_cast Nat.pos_of_ne_zero h0
    have a3 : (fl : Rat) < q := by
      refine Rat.lt_of_mul_lt_mul_right (c := (n : Rat)) ?_ (Rat.le_of_lt hn')
      rw [hq, e1]; grind
    have : fl < k := nat_lt.1 (by grind)
    omega
theorem V_zero {f : Format} {b : Nat} {s : Bool} {m : Nat} {e : Int} (_h : f.read b = .number s m e) : sv s ((m : Rat) * 2 ^ e) = 0 ↔ m = 0 := by
  have hp := p2_pos e
  constructor
  · intro h
    have : (m : Rat) * 2 ^ e = 0 := by unfold sv at h; split at h <;> grind
    have h2 : (m : Rat) = 0 := by
      rcases Rat.mul_eq_zero.1 this with h | h
      · exact h
      · grind
    exact Rat.natCast_inj.1 (by rw [h2]; rfl)
  · rintro rfl
    have : ((0 : Nat) : Rat) * 2 ^ e = 0 := by have e4 : ((0 : Nat) : Rat) = 0 := rfl; rw [e4]; grind
    rw [this]; cases s <;> rfl
theorem div_nr {f : Format} {M : Int} (hM : Fits f M) {a b : Nat} {x y : Rat} (ha : V f a x) (hb : V f b y) (hy : y ≠ 0) (h1 : -2 ^ M ≤ x / y) (h2 : x / y ≤ 2 ^ M) :
    ∃ r q, f.div a b = some r ∧ Nr f M q r ∧ (0 ≤ x / y → 0 ≤ q ∧ ((2 ^ (f.fractionBits + 2) : Nat) : Rat) * (q - x / y) ≤ x / y ∧ ((2 ^ (f.fractionBits + 2) : Nat) : Rat) * (x / y - q) ≤ x / y) ∧ (x / y ≤ 0 → q ≤ 0) := by
  obtain ⟨s, m, i, hr, rfl⟩ := ha
  obtain ⟨t, n, j, hq, rfl⟩ := hb
  have hn : n ≠ 0 := fun h => hy ((V_zero hq).2 h)
  rw [sv_div] at *
  by_cases hm : m = 0
  · subst hm
    have e0 : ((0 : Nat) : Rat) * 2 ^ i = 0 := by have e4 : ((0 : Nat) : Rat) = 0 := rfl; rw [e4]; grind
    have e1 : sv (s ^^ t) ((((0 : Nat) : Rat) * 2 ^ i) / ((n : Rat) * 2 ^ j)) = 0 := by
      rw [e0, Rat.div_def]; cases (s ^^ t) <;> simp [sv]
    rw [e1] at h1 h2 ⊢
    obtain ⟨e, p, he⟩ : ∃ e p, Datum.quotient (f.fractionBits + 2) (.number s 0 i) (.number t n j) = some (.number e 0 p) := by
      refine ⟨s ^^ t, i - j - ((f.fractionBits + 2 + n.log2 - Nat.log2 0 : Nat) : Int) - 1, ?_⟩
      simp [Datum.quotient, hn]
    refine ⟨_, 0, by unfold Format.div; rw [hr, hq, he]; rfl, write_nr hM ?_ h1 h2, fun _ => ⟨Rat.le_refl, by grind, by grind⟩, fun _ => Rat.le_refl⟩
    have e4 : ((0 : Nat) : Rat) = 0 := rfl
    rw [e4]
    cases e <;> simp [sv]
  have hcore := div_core m n (f.fractionBits + 2 + n.log2 - m.log2) i j hn
  have hquo := quo_core (f.fractionBits + 2) m n (by omega) hm hn
  dsimp only at hquo
  obtain ⟨b1, q, hqe, b2, b3, b4, b5⟩ := hquo
  rw [← hqe] at hcore
  rw [hcore] at h1 h2 ⊢
  have hdiv : f.div a b = some (f.write (.number (s ^^ t) (2 * (m <<< (f.fractionBits + 2 + n.log2 - m.log2) / n) + (m <<< (f.fractionBits + 2 + n.log2 - m.log2) % n != 0).toNat) (i - j - (f.fractionBits + 2 + n.log2 - m.log2 : Nat) - 1))) := by
    unfold Format.div
    rw [hr, hq]
    simp only [Datum.quotient, if_neg hn]
    rfl
  rw [hdiv]
  generalize hmore : f.fractionBits + 2 + n.log2 - m.log2 = more at *
  generalize hfl : m <<< more / n = fl at *
  generalize hD : 2 * fl + (m <<< more % n != 0).toNat = D at *
  generalize hplace : i - j - (more : Int) = pl at *
  have hU := p2_pos pl
  have hU1 : (2 : Rat) ^ (pl - 1) * 2 = 2 ^ pl := by
    have := p2_add (pl - 1) 1
    rw [Rat.zpow_one, show pl - 1 + 1 = pl by omega] at this
    exact this.symm
  have hfl1 : (1 : Rat) ≤ (fl : Rat) := by
    have : 1 ≤ fl := Nat.le_trans (Nat.one_le_two_pow) b1
    exact_mod_cast this
  have hq1 : (1 : Rat) ≤ q := Rat.le_trans hfl1 b4
  have hqU : 2 ^ pl ≤ q * 2 ^ pl := by
    have := mul_le_right hq1 (Rat.le_of_lt hU)
    grind
  have hqM : q * 2 ^ pl ≤ 2 ^ M := by
    unfold sv at h1 h2
    split at h1 <;> grind
  have hplM : pl ≤ M := by
    rcases Int.lt_or_le M pl with h | h
    · exfalso
      have := p2_mono (show M + 1 ≤ pl by omega)
      rw [p2_add, Rat.zpow_one] at this
      have := p2_pos M
      grind
    · exact h
  have hDM : (D : Rat) * 2 ^ (pl - 1) ≤ 2 ^ M := by
    have e1 : (2 : Rat) ^ M = ((2 ^ (M - pl).toNat : Nat) : Rat) * 2 ^ pl := by
      rw [p2_toNat (by omega), ← p2_add]; congr 1; omega
    have := nat_le.2 (b5 (2 ^ (M - pl).toNat) (le_of_mul (c := 2 ^ pl) (by rw [← e1]; exact hqM) hU))
    rw [Rat.natCast_mul] at this
    have h22 : ((2 : Nat) : Rat) = 2 := rfl
    rw [h22] at this
    have h3 := mul_le_right this (Rat.le_of_lt (p2_pos (pl - 1)))
    rw [e1, ← hU1]
    generalize ((2 ^ (M - pl).toNat : Nat) : Rat) = G at *
    generalize (2 : Rat) ^ (pl - 1) = H at *
    clear h1 h2 hcore hdiv hqe b5
    grind
  have hD0 : (0 : Rat) ≤ (D : Rat) * 2 ^ (pl - 1) := Rat.mul_nonneg (by exact_mod_cast Nat.zero_le _) (Rat.le_of_lt (p2_pos _))
  refine ⟨_, sv (s ^^ t) ((D : Rat) * 2 ^ (pl - 1)), rfl, write_nr hM rfl (sv_abs hD0 hDM).1 (sv_abs hD0 hDM).2, ?_⟩
  -- the error
  have hW : ((2 ^ (f.fractionBits + 2) : Nat) : Rat) * 2 ^ (pl - 1) ≤ q * 2 ^ pl := by
    have e1 : (2 ^ (f.fractionBits + 2) : Nat) = 2 * 2 ^ (f.fractionBits + 2 - 1) := by
      rw [show f.fractionBits + 2 = f.fractionBits + 2 - 1 + 1 by omega, Nat.pow_succ, Nat.mul_comm]; rfl
    rw [e1, Rat.natCast_mul]
    have h22 : ((2 : Nat) : Rat) = 2 := rfl
    have h3 := mul_le_right (Rat.le_trans (nat_le.2 b1) b4) (Rat.le_of_lt hU)
    rw [h22]
    clear h1 h2 hcore hdiv hqe b5 hD hfl e1 b1
    generalize ((2 ^ (f.fractionBits + 2 - 1) : Nat) : Rat) = G at *
    generalize (2 : Rat) ^ (pl - 1) = H at *
    generalize (2 : Rat) ^ pl = I at *
    generalize q * I = Q at *
    rw [← hU1] at h3
    have e : 2 * G * H = G * (H * 2) := by grind
    rw [e]
    exact h3
  have hW0 : (0 : Rat) ≤ ((2 ^ (f.fractionBits + 2) : Nat) : Rat) := by exact_mod_cast Nat.zero_le _
  have c1 : (D : Rat) * 2 ^ (pl - 1) - q * 2 ^ pl ≤ 2 ^ (pl - 1) := by
    have := mul_le_right b2 (Rat.le_of_lt (p2_pos (pl - 1)))
    rw [← hU1]
    generalize (2 : Rat) ^ (pl - 1) = H at *
    have e : q * (H * 2) = 2 * q * H := by grind
    have e2 : (2 * q + 1) * H = 2 * q * H + H := by grind
    rw [e]
    rw [e2] at this
    clear h1 h2 hcore hdiv hqe b5 hD hfl b1
    grind
  have c2 : q * 2 ^ pl - (D : Rat) * 2 ^ (pl - 1) ≤ 2 ^ (pl - 1) := by
    have := mul_le_right b3 (Rat.le_of_lt (p2_pos (pl - 1)))
    rw [← hU1]
    generalize (2 : Rat) ^ (pl - 1) = H at *
    have e : q * (H * 2) = 2 * q * H := by grind
    have e2 : ((D : Rat) + 1) * H = (D : Rat) * H + H := by grind
    rw [e]
    rw [e2] at this
    clear h1 h2 hcore hdiv hqe b5 hD hfl b1
    grind
  have d1 := Rat.mul_le_mul_of_nonneg_left c1 hW0
  have d2 := Rat.mul_le_mul_of_nonneg_left c2 hW0
  have hQ0 : (0 : Rat) < q * 2 ^ pl := by grind
  clear hcore hdiv hqe b5 hD hfl b1 hU1 hU hqU c1 c2
  generalize q * 2 ^ pl = Q at *
  generalize (D : Rat) * 2 ^ (pl - 1) = E at *
  cases (s ^^ t)
  · simp only [sv, if_neg Bool.false_ne_true]
    exact ⟨fun _ => ⟨hD0, Rat.le_trans d1 hW, Rat.le_trans d2 hW⟩, fun h => by grind⟩
  · simp only [sv]
    exact ⟨fun h => by grind, fun _ => by grind⟩
end Go.Proofs.Ytlfffkjgepgcfaa.fl
