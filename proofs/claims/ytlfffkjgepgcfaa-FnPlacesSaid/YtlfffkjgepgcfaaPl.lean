/-
  How likely each seat has each place, in words and in rationals: what both programs compute, and how near it lies to the exact chance. Conditions: those of each theorem.
-/
import Derived.Test.YtlfffkjgepgcfaaFloat
import Derived.Test.YtlfffkjgepgcfaaFlx
namespace Go.Proofs.Ytlfffkjgepgcfaa.pl
open Go.RowKit
open base mem fl
open Ieee

def rm (L : Nat → Bool) (j : Nat) : Nat → Bool := fun k => L k && k != j
theorem rm_self (L : Nat → Bool) (j : Nat) : rm L j j = false := by simp [rm]
theorem rm_ne {L : Nat → Bool} {j k : Nat} (h : k ≠ j) : rm L j k = L k := by simp [rm, h]
def sumL (xs : List Int) (L : Nat → Bool) : Nat → Int
  | 0 => 0
  | m + 1 => sumL xs L m + if L m then xs.getD m 0 else 0
def cntL (L : Nat → Bool) : Nat → Nat
  | 0 => 0
  | m + 1 => cntL L m + if L m then 1 else 0
def qL (xs : List Int) (L : Nat → Bool) (i : Nat) : Nat := (single.div (FloatKind.f32.nearest (xs.getD i 0)) (FloatKind.f32.nearest (sumL xs L xs.length))).getD 0
def mulW (a b : Nat) : Nat := (single.mul a b).getD 0
def addW (a b : Nat) : Nat := (single.add a b).getD 0
def accL (L : Nat → Bool) (i : Nat) (q p : Nat → Nat) : Nat → Nat
  | 0 => 0
  | m + 1 => if L m && m != i then addW (accL L i q p m) (mulW (q m) (p m)) else accL L i q p m
def PL (xs : List Int) : Nat → (Nat → Bool) → Nat → Nat
  | 0, L, i => qL xs L i
  | k + 1, L, i => accL L i (qL xs L) (fun j => PL xs k (rm L j) i) xs.length
def qR (xs : List Int) (L : Nat → Bool) (i : Nat) : Rat := (xs.getD i 0 : Rat) / (sumL xs L xs.length : Rat)
def accR (L : Nat → Bool) (i : Nat) (q p : Nat → Rat) : Nat → Rat
  | 0 => 0
  | m + 1 => if L m && m != i then accR L i q p m + q m * p m else accR L i q p m
def PR (xs : List Int) : Nat → (Nat → Bool) → Nat → Rat
  | 0, L, i => qR xs L i
  | k + 1, L, i => accR L i (qR xs L) (fun j => PR xs k (rm L j) i) xs.length

structure Good (xs : List Int) : Prop where
  few : xs.length ≤ 6
  lo : ∀ k, k < xs.length → 1 ≤ xs.getD k 0
  hi : ∀ k, k < xs.length → xs.getD k 0 ≤ 1000000

section
variable {xs : List Int} {L : Nat → Bool}
theorem sumL_bd (g : Good xs) : ∀ m, m ≤ xs.length → 0 ≤ sumL xs L m ∧ sumL xs L m ≤ m * 1000000
  | 0, _ => ⟨Int.le_refl _, by simp [sumL]⟩
  | m + 1, h => by
    have h1 := sumL_bd g m (by omega)
    have h2 := g.lo m (by omega)
    have h3 := g.hi m (by omega)
    unfold sumL
    split <;> constructor <;> omega
theorem sumL_mono (g : Good xs) {a : Nat} : ∀ m, a ≤ m → m ≤ xs.length → sumL xs L a ≤ sumL xs L m
  | 0, h, _ => by rw [Nat.le_zero.1 h]; exact Int.le_refl _
  | m + 1, h, h2 => by
    rcases Nat.lt_or_eq_of_le h with h | h
    · have h1 := sumL_mono g (a := a) m (by omega) (by omega)
      have h3 := g.lo m (by omega)
      show _ ≤ sumL xs L m + _
      split <;> omega
    · rw [h]; exact Int.le_refl _
theorem sumL_pos (g : Good xs) {i : Nat} (hi : i < xs.length) (hL : L i = true) : 1 ≤ sumL xs L xs.length ∧ xs.getD i 0 ≤ sumL xs L xs.length := by
  have h1 := sumL_mono g (a := i + 1) (L := L) xs.length hi (Nat.le_refl _)
  have h2 := (sumL_bd g i (by omega) (L := L)).1
  have h3 := g.lo i hi
  have h4 : sumL xs L (i + 1) = sumL xs L i + xs.getD i 0 := by
    show _ + _ = _
    rw [hL, if_pos rfl]
  constructor <;> omega
theorem cntL_le (L : Nat → Bool) : ∀ m, cntL L m ≤ m
  | 0 => Nat.le_refl _
  | m + 1 => by
    have := cntL_le L m
    unfold cntL
    split <;> omega
theorem cntL_rm (L : Nat → Bool) (j : Nat) : ∀ m, cntL (rm L j) m + (if j < m ∧ L j = true then 1 else 0) = cntL L m
  | 0 => by simp [cntL]
  | m + 1 => by
    have h := cntL_rm L j m
    unfold cntL
    by_cases hj : j = m
    · subst hj
      rw [rm_self]
      cases hL : L j <;> simp [hL] at h ⊢ <;> omega
    · rw [rm_ne (fun e => hj e.symm)]
      by_cases h1 : j < m
      · have h2 : j < m + 1 := by omega
        simp only [h1, h2, true_and] at h ⊢
        split <;> split at h <;> simp_all <;> omega
      · have h2 : ¬ j < m + 1 := by omega
        simp only [h1, h2, false_and, if_false] at h ⊢
        omega

/-! ### the exact chances -/
theorem sumR_pos (g : Good xs) {i : Nat} (hi : i < xs.length) (hL : L i = true) : (1 : Rat) ≤ (sumL xs L xs.length : Rat) := by
  have := Rat.intCast_le_intCast.2 (sumL_pos g hi hL).1
  exact this
theorem qR_mul (g : Good xs) {i j : Nat} (hi : i < xs.length) (hL : L i = true) : qR xs L j * (sumL xs L xs.length : Rat) = (xs.getD j 0 : Rat) := by
  have := sumR_pos g hi hL
  unfold qR
  rw [Rat.div_mul_cancel]
  grind
theorem qR_nn (g : Good xs) {i j : Nat} (hi : i < xs.length) (hL : L i = true) (hj : j < xs.length) : 0 ≤ qR xs L j := by
  have h1 := sumR_pos g hi hL
  have h2 := qR_mul g hi hL (j := j)
  have h3 : (1 : Rat) ≤ (xs.getD j 0 : Rat) := Rat.intCast_le_intCast.2 (g.lo j hj)
  rw [← h2] at h3
  refine le_of_mul (c := (sumL xs L xs.length : Rat)) ?_ (by grind)
  grind
/-- the sum of the quotients of those left among the first m -/
def partR (xs : List Int) (L : Nat → Bool) (m : Nat) : Rat := (sumL xs L m : Rat) / (sumL xs L xs.length : Rat)
theorem partR_mul (g : Good xs) {i : Nat} (hi : i < xs.length) (hL : L i = true) (m : Nat) : partR xs L m * (sumL xs L xs.length : Rat) = (sumL xs L m : Rat) := by
  have := sumR_pos g hi hL
  unfold partR
  rw [Rat.div_mul_cancel]
  grind
theorem mul_inj {a b c : Rat} (h : a * c = b * c) (hc : 0 < c) : a = b :=
  Rat.le_antisymm (le_of_mul (h ▸ Rat.le_refl) hc) (le_of_mul (h ▸ Rat.le_refl) hc)
theorem partR_zero : partR xs L 0 = 0 := by
  unfold partR sumL
  have : ((0 : Int) : Rat) = 0 := rfl
  rw [this, Rat.div_def, Rat.zero_mul]
theorem partR_all (g : Good xs) {i : Nat} (hi : i < xs.length) (hL : L i = true) : partR xs L xs.length = 1 := by
  have := sumR_pos g hi hL
  refine mul_inj (c := (sumL xs L xs.length : Rat)) ?_ (by grind)
  rw [partR_mul g hi hL]; grind
theorem partR_succ (g : Good xs) {i : Nat} (hi : i < xs.length) (hL : L i = true) (m : Nat) : partR xs L (m + 1) = partR xs L m + if L m then qR xs L m else 0 := by
  have := sumR_pos g hi hL
  refine mul_inj (c := (sumL xs L xs.length : Rat)) ?_ (by grind)
  rw [partR_mul g hi hL, Rat.add_mul, partR_mul g hi hL]
  show ((sumL xs L m + _ : Int) : Rat) = _
  rw [Rat.intCast_add]
  congr 1
  split
  · rw [qR_mul g hi hL]
  · have : ((0 : Int) : Rat) = 0 := rfl
    rw [this]; grind
theorem partR_bd (g : Good xs) {i : Nat} (hi : i < xs.length) (hL : L i = true) {m : Nat} (hm : m ≤ xs.length) : 0 ≤ partR xs L m ∧ partR xs L m ≤ 1 := by
  have h1 := sumR_pos g hi hL
  have h2 : (0 : Rat) ≤ (sumL xs L m : Rat) := Rat.intCast_le_intCast.2 (sumL_bd g m hm).1
  have h3 : (sumL xs L m : Rat) ≤ (sumL xs L xs.length : Rat) := Rat.intCast_le_intCast.2 (sumL_mono g _ hm (Nat.le_refl _))
  rw [← partR_mul g hi hL] at h2
  constructor
  · exact le_of_mul (c := (sumL xs L xs.length : Rat)) (by grind) (by grind)
  · refine le_of_mul (c := (sumL xs L xs.length : Rat)) ?_ (by grind)
    rw [partR_mul g hi hL]; grind
theorem accR_bd (g : Good xs) {i : Nat} (hi : i < xs.length) (hL : L i = true) {p : Nat → Rat} (hp : ∀ j, j < xs.length → L j = true → j ≠ i → 0 ≤ p j ∧ p j ≤ 1) :
    ∀ m, m ≤ xs.length → 0 ≤ accR L i (qR xs L) p m ∧ accR L i (qR xs L) p m ≤ partR xs L m
  | 0, _ => by rw [partR_zero]; exact ⟨Rat.le_refl, Rat.le_refl⟩
  | m + 1, h => by
    have h1 := accR_bd g hi hL hp m (by omega)
    have hq := qR_nn g hi hL (j := m) (by omega)
    rw [partR_succ g hi hL]
    unfold accR
    by_cases hm : L m = true
    · rw [if_pos hm]
      by_cases he : m = i
      · rw [if_neg (by simp [he])]
        exact ⟨h1.1, by grind⟩
      · rw [if_pos (by simp [hm, he])]
        obtain ⟨p0, p1⟩ := hp m (by omega) hm he
        have e1 := Rat.mul_nonneg hq p0
        have e2 := Rat.mul_le_mul_of_nonneg_left p1 hq
        constructor <;> grind
    · rw [if_neg hm, if_neg (by simp [hm])]
      exact ⟨h1.1, by grind⟩
theorem PR_bd (g : Good xs) : ∀ (k : Nat) (L : Nat → Bool) (i : Nat), i < xs.length → L i = true → 0 ≤ PR xs k L i ∧ PR xs k L i ≤ 1
  | 0, L, i, hi, hL => by
    refine ⟨qR_nn g hi hL hi, ?_⟩
    have h1 := sumR_pos g hi hL
    refine le_of_mul (c := (sumL xs L xs.length : Rat)) ?_ (by grind)
    show qR xs L i * _ ≤ _
    rw [qR_mul g hi hL, Rat.one_mul]
    exact Rat.intCast_le_intCast.2 (sumL_pos g hi hL).2
  | k + 1, L, i, hi, hL => by
    have h := accR_bd g hi hL (p := fun j => PR xs k (rm L j) i) (fun j hj hLj hne => PR_bd g k (rm L j) i hi (by rw [rm_ne (fun e => hne e.symm)]; exact hL)) xs.length (Nat.le_refl _)
    have h2 := partR_bd g hi hL (Nat.le_refl _)
    exact ⟨h.1, Rat.le_trans h.2 h2.2⟩

/-! ### the words -/
theorem int_exact {n : Int} (h0 : 0 ≤ n) (h1 : n < 16777216) : V single (FloatKind.f32.nearest n) (n : Rat) := by
  have e0 : ((0 : Int) : Rat) ≤ (n : Rat) := Rat.intCast_le_intCast.2 h0
  have e1 : (n : Rat) ≤ ((16777216 : Int) : Rat) := Rat.intCast_le_intCast.2 (by omega)
  have p24 : (2 : Rat) ^ (24 : Int) = ((16777216 : Int) : Rat) := by decide +kernel
  have hx : (n : Rat) = sv false ((n.natAbs : Rat) * 2 ^ (0 : Int)) := by
    have : ((n.natAbs : Int) : Rat) = (n : Rat) := by congr 1; omega
    rw [Rat.zpow_zero, Rat.mul_one, show ((n.natAbs : Nat) : Rat) = ((n.natAbs : Int) : Rat) from rfl, this]; rfl
  have hd : decide (n < 0) = false := decide_eq_false (by omega)
  refine write_exact (f := single) (M := 24) (fits_single (by omega) (by omega)) ?_ ?_ ?_ ?_ (s := decide (n < 0)) (mag := n.natAbs) (place := 0)
  · rw [hd]; exact hx
  · have := p2_pos 24
    have z : ((0 : Int) : Rat) = 0 := rfl
    grind
  · rw [p24]; exact e1
  · refine ⟨false, n.natAbs, 0, hx, ?_, by decide⟩
    have : single.binade = 8388608 := by decide
    omega
/-- the unit of all errors: 2^-23 -/
def uu : Rat := 2 ^ (-23 : Int)
theorem uu_pos : 0 < uu := p2_pos _
theorem uu_small : 10000 * uu ≤ 1 := by unfold uu; decide +kernel
theorem p1_2 : (2 : Rat) ^ (1 : Int) = 2 := by decide +kernel
theorem p1_u : (2 : Rat) ^ ((1 : Int) - (single.fractionBits : Int)) = 2 * uu := by unfold uu; decide +kernel
theorem qL_ok (g : Good xs) {i j : Nat} (hi : i < xs.length) (hL : L i = true) (hj : j < xs.length) (hLj : L j = true) :
    single.div (FloatKind.f32.nearest (xs.getD j 0)) (FloatKind.f32.nearest (sumL xs L xs.length)) = some (qL xs L j) ∧
    ∃ z, V single (qL xs L j) z ∧ 0 ≤ z ∧ z ≤ 2 ∧ z - qR xs L j ≤ 2 * uu ∧ qR xs L j - z ≤ 2 * uu := by
  have hS := sumL_bd g xs.length (Nat.le_refl _) (L := L)
  have hf := g.few
  have ha := int_exact (n := xs.getD j 0) (by have := g.lo j hj; omega) (by have := g.hi j hj; omega)
  have hb := int_exact (n := sumL xs L xs.length) hS.1 (by omega)
  have hp := sumR_pos g hi hL
  have q0 := qR_nn g hi hL hj
  have q1 := (PR_bd g 0 L j hj hLj).2
  have q1' : qR xs L j ≤ 1 := q1
  obtain ⟨r, q, hr, hz, hq, _⟩ := div_nr (f := single) (M := 1) (fits_single (by omega) (by omega)) ha hb (by grind) (by rw [p1_2]; show _ ≤ qR xs L j; grind) (by rw [p1_2]; show qR xs L j ≤ _; grind)
  obtain ⟨d0, d1, d2⟩ := hq q0
  obtain ⟨z, hv, z1, z2, z3, z4, z5, z6, z7⟩ := hz
  have e : qL xs L j = r := by unfold qL; rw [hr]; rfl
  rw [e]
  refine ⟨hr, z, hv, z5 d0, by rw [p1_2] at z2; exact z2, ?_⟩
  rw [p1_u] at z3 z4
  have e25 : ((2 ^ (single.fractionBits + 2) : Nat) : Rat) * uu = 4 := by unfold uu; decide +kernel
  change _ * (q - qR xs L j) ≤ qR xs L j at d1
  change _ * (qR xs L j - q) ≤ qR xs L j at d2
  have e1 : q - qR xs L j ≤ uu := by
    refine le_of_mul (c := ((2 ^ (single.fractionBits + 2) : Nat) : Rat)) ?_ (by decide +kernel)
    grind
  have e2 : qR xs L j - q ≤ uu := by
    refine le_of_mul (c := ((2 ^ (single.fractionBits + 2) : Nat) : Rat)) ?_ (by decide +kernel)
    grind
  constructor <;> grind
/-- one step of the sum: the product and the sum are numbers, and the error grows by no more than told -/
theorem step_ok {a q p : Nat} {x y z A Q P ea ep : Rat} (hx : V single a x) (hy : V single q y) (hz : V single p z)
    (x0 : 0 ≤ x) (y0 : 0 ≤ y) (z0 : 0 ≤ z) (Q0 : 0 ≤ Q) (P1 : P ≤ 1) (s1 : A + Q ≤ 1)
    (xa : x - A ≤ ea) (ax : A - x ≤ ea) (yq : y - Q ≤ 2 * uu) (qy : Q - y ≤ 2 * uu) (zp : z - P ≤ ep) (pz : P - z ≤ ep) (hea : ea ≤ 1 / 10) (hep : ep ≤ 1 / 10) :
    single.mul q p = some (mulW q p) ∧ single.add a (mulW q p) = some (addW a (mulW q p)) ∧ ∃ r, V single (addW a (mulW q p)) r ∧ 0 ≤ r ∧ r - (A + Q * P) ≤ ea + Q * ep + 5 * uu ∧ (A + Q * P) - r ≤ ea + Q * ep + 5 * uu := by
  have hu := uu_small
  have hu0 := uu_pos
  have hQ1 : Q ≤ 1 + ea := by grind
  have hz2 : z ≤ 11 / 10 := by grind
  have m0 : 0 ≤ y * z := Rat.mul_nonneg y0 z0
  -- y z against Q P
  have k1 : (y - Q) * z ≤ 2 * uu * z := mul_le_right yq z0
  have k2 : (Q - y) * z ≤ 2 * uu * z := mul_le_right qy z0
  have k3 : Q * (z - P) ≤ Q * ep := Rat.mul_le_mul_of_nonneg_left zp Q0
  have k4 : Q * (P - z) ≤ Q * ep := Rat.mul_le_mul_of_nonneg_left pz Q0
  have k5 : uu * z ≤ uu * (11 / 10) := Rat.mul_le_mul_of_nonneg_left hz2 (Rat.le_of_lt hu0)
  have c1 : y * z - Q * P ≤ Q * ep + 22 / 10 * uu := by grind
  have c2 : Q * P - y * z ≤ Q * ep + 22 / 10 * uu := by grind
  have k6 : Q * P ≤ Q := by have := Rat.mul_le_mul_of_nonneg_left P1 Q0; grind
  have k7 : Q * ep ≤ Q * (1 / 10) := Rat.mul_le_mul_of_nonneg_left hep Q0
  have m1 : y * z ≤ 13 / 10 := by grind
  obtain ⟨r, hr, w, hw, w1, w2, w3, w4, w5, w6, w7⟩ := mul_nr (f := single) (M := 1) (fits_single (by omega) (by omega)) hy hz (by rw [p1_2]; grind) (by rw [p1_2]; grind)
  rw [p1_u] at w3 w4
  have e1 : mulW q p = r := by unfold mulW; rw [hr]; rfl
  rw [e1]
  have w0 := w5 m0
  have b1 : x + w ≤ 2 := by grind
  obtain ⟨t, ht, v, hv, v1, v2, v3, v4, v5, v6, v7⟩ := add_nr (f := single) (M := 1) (fits_single (by omega) (by omega)) hx hw (by rw [p1_2]; grind) (by rw [p1_2]; grind)
  rw [p1_u] at v3 v4
  have e2 : addW a r = t := by unfold addW; rw [ht]; rfl
  rw [e2]
  exact ⟨hr, ht, v, hv, v5 (by grind), by grind, by grind⟩
/-- the word p stands for a number near to P -/
def Near (p : Nat) (P e : Rat) : Prop := ∃ z, V single p z ∧ 0 ≤ z ∧ z - P ≤ e ∧ P - z ≤ e
def natR (n : Nat) : Rat := (n : Rat)
theorem natR_succ (n : Nat) : natR (n + 1) = natR n + 1 := by unfold natR; rw [Rat.natCast_add]; rfl
theorem natR_zero : natR 0 = 0 := rfl
theorem natR_le {a b : Nat} (h : a ≤ b) : natR a ≤ natR b := nat_le.2 h
theorem part_add (g : Good xs) {i m : Nat} (hi : i < xs.length) (hL : L i = true) (hm : m < xs.length) (hLm : L m = true) : partR xs L (m + 1) = partR xs L m + qR xs L m ∧ partR xs L (m + 1) ≤ 1 := by
  refine ⟨by rw [partR_succ g hi hL, hLm, if_pos rfl], (partR_bd g hi hL hm).2⟩
theorem acc_near (g : Good xs) {i : Nat} (hi : i < xs.length) (hL : L i = true) {p : Nat → Nat} {P : Nat → Rat} {E : Rat} (hE0 : 0 ≤ E) (hE : E ≤ 1 / 20)
    (hp : ∀ j, j < xs.length → L j = true → j ≠ i → Near (p j) (P j) E ∧ 0 ≤ P j ∧ P j ≤ 1) {m : Nat} (hm : m < xs.length)
    (h : Near (accL L i (qL xs L) p m) (accR L i (qR xs L) P m) (partR xs L m * E + natR m * (5 * uu))) (hLm : L m = true) (hne : m ≠ i) :
    single.mul (qL xs L m) (p m) = some (mulW (qL xs L m) (p m)) ∧ single.add (accL L i (qL xs L) p m) (mulW (qL xs L m) (p m)) = some (accL L i (qL xs L) p (m + 1)) ∧
      Near (accL L i (qL xs L) p (m + 1)) (accR L i (qR xs L) P (m + 1)) (partR xs L (m + 1) * E + natR (m + 1) * (5 * uu)) := by
  obtain ⟨⟨z, z1, z2, z3, z4⟩, p0, p1⟩ := hp m hm hLm hne
  obtain ⟨x, x1, x2, x3, x4⟩ := h
  obtain ⟨_, y, y1, y2, _, y4, y5⟩ := qL_ok g hi hL hm hLm
  have a1 := accR_bd g hi hL (fun j hj h1 h2 => (hp j hj h1 h2).2) m (by omega)
  obtain ⟨b1, b2⟩ := part_add g hi hL hm hLm
  have q0 := qR_nn g hi hL hm
  have hf := natR_le (show m ≤ 6 by have := g.few; omega)
  have e6 : natR 6 = 6 := rfl
  rw [e6] at hf
  have hu := uu_pos
  have hs := uu_small
  have k1 := mul_le_right hf (show 0 ≤ 5 * uu by grind)
  have k2 := mul_le_right (partR_bd g hi hL (show m ≤ xs.length by omega)).2 hE0
  obtain ⟨c1, c2, r, r1, r2, r3, r4⟩ := step_ok x1 y1 z1 x2 y2 z2 q0 p1 (by grind) x3 x4 y4 y5 z3 z4 (by grind) (by grind)
  have e1 : accL L i (qL xs L) p (m + 1) = addW (accL L i (qL xs L) p m) (mulW (qL xs L m) (p m)) := by
    show (if _ then _ else _) = _
    rw [if_pos (by simp [hLm, hne])]
  have e2 : accR L i (qR xs L) P (m + 1) = accR L i (qR xs L) P m + qR xs L m * P m := by
    show (if _ then _ else _) = _
    rw [if_pos (by simp [hLm, hne])]
  rw [e1, e2]
  refine ⟨c1, c2, r, r1, r2, ?_, ?_⟩
  · rw [b1, natR_succ]; grind
  · rw [b1, natR_succ]; grind
theorem acc_next (g : Good xs) {i : Nat} (hi : i < xs.length) (hL : L i = true) {p : Nat → Nat} {P : Nat → Rat} {E : Rat} (hE0 : 0 ≤ E) (hE : E ≤ 1 / 20)
    (hp : ∀ j, j < xs.length → L j = true → j ≠ i → Near (p j) (P j) E ∧ 0 ≤ P j ∧ P j ≤ 1) {m : Nat} (_hm : m ≤ xs.length)
    (h : Near (accL L i (qL xs L) p m) (accR L i (qR xs L) P m) (partR xs L m * E + natR m * (5 * uu))) :
    m < xs.length → L m = true → m ≠ i → single.mul (qL xs L m) (p m) = some (mulW (qL xs L m) (p m)) ∧ single.add (accL L i (qL xs L) p m) (mulW (qL xs L m) (p m)) = some (accL L i (qL xs L) p (m + 1)) := by
  intro h1 h2 h3
  have := acc_near g hi hL hE0 hE hp h1 h h2 h3
  exact ⟨this.1, this.2.1⟩
theorem acc_ok (g : Good xs) {i : Nat} (hi : i < xs.length) (hL : L i = true) {p : Nat → Nat} {P : Nat → Rat} {E : Rat} (hE0 : 0 ≤ E) (hE : E ≤ 1 / 20)
    (hp : ∀ j, j < xs.length → L j = true → j ≠ i → Near (p j) (P j) E ∧ 0 ≤ P j ∧ P j ≤ 1) :
    ∀ m, m ≤ xs.length → Near (accL L i (qL xs L) p m) (accR L i (qR xs L) P m) (partR xs L m * E + natR m * (5 * uu)) ∧
      (m < xs.length → L m = true → m ≠ i → single.mul (qL xs L m) (p m) = some (mulW (qL xs L m) (p m)) ∧ single.add (accL L i (qL xs L) p m) (mulW (qL xs L m) (p m)) = some (accL L i (qL xs L) p (m + 1)))
  | 0, _ => by
    have h0 : Near (accL L i (qL xs L) p 0) (accR L i (qR xs L) P 0) (partR xs L 0 * E + natR 0 * (5 * uu)) := by
      refine ⟨0, zero_V, Rat.le_refl, ?_, ?_⟩ <;> rw [partR_zero, natR_zero] <;> unfold accR <;> grind
    exact ⟨h0, acc_next g hi hL hE0 hE hp (Nat.zero_le _) h0⟩
  | m + 1, h => by
    obtain ⟨h1, h2⟩ := acc_ok g hi hL hE0 hE hp m (by omega)
    have hu := uu_pos
    have h3 : Near (accL L i (qL xs L) p (m + 1)) (accR L i (qR xs L) P (m + 1)) (partR xs L (m + 1) * E + natR (m + 1) * (5 * uu)) := by
      by_cases hm : L m = true ∧ m ≠ i
      · exact (acc_near g hi hL hE0 hE hp (by omega) h1 hm.1 hm.2).2.2
      · have e1 : accL L i (qL xs L) p (m + 1) = accL L i (qL xs L) p m := by
          show (if _ then _ else _) = _
          rw [if_neg (by simpa using hm)]
        have e2 : accR L i (qR xs L) P (m + 1) = accR L i (qR xs L) P m := by
          show (if _ then _ else _) = _
          rw [if_neg (by simpa using hm)]
        obtain ⟨z, z1, z2, z3, z4⟩ := h1
        have e3 : partR xs L m * E ≤ partR xs L (m + 1) * E := by
          refine mul_le_right ?_ hE0
          rw [partR_succ g hi hL]
          have := qR_nn g hi hL (j := m) (by omega)
          split <;> grind
        rw [e1, e2]
        exact ⟨z, z1, z2, by rw [natR_succ]; grind, by rw [natR_succ]; grind⟩
    exact ⟨h3, acc_next g hi hL hE0 hE hp h h3⟩
/-- the bound of the error at a place -/
def EE (k : Nat) : Rat := natR k * (30 * uu) + 2 * uu
theorem EE_bd {k : Nat} (hk : k ≤ 8) : 0 ≤ EE k ∧ EE k ≤ 1 / 20 := by
  have h1 := natR_le hk
  have h2 := natR_le (Nat.zero_le k)
  have hu := uu_pos
  have hs := uu_small
  have e8 : natR 8 = 8 := rfl
  rw [natR_zero] at h2
  rw [e8] at h1
  unfold EE
  have h3 := mul_le_right h1 (show 0 ≤ 30 * uu by grind)
  have h4 := Rat.mul_nonneg h2 (show 0 ≤ 30 * uu by grind)
  constructor <;> grind
theorem EE_succ (k : Nat) : EE (k + 1) = EE k + 30 * uu := by
  unfold EE
  rw [natR_succ]; grind
theorem PL_ok (g : Good xs) : ∀ (k : Nat) (L : Nat → Bool) (i : Nat), k ≤ 8 → i < xs.length → L i = true → Near (PL xs k L i) (PR xs k L i) (EE k)
  | 0, L, i, _, hi, hL => by
    obtain ⟨_, z, z1, z2, _, z4, z5⟩ := qL_ok g hi hL hi hL
    have : EE 0 = 2 * uu := by unfold EE; rw [natR_zero]; grind
    rw [this]
    exact ⟨z, z1, z2, z4, z5⟩
  | k + 1, L, i, hk, hi, hL => by
    have hb := EE_bd (k := k) (by omega)
    have h := (acc_ok g hi hL hb.1 hb.2 (p := fun j => PL xs k (rm L j) i) (P := fun j => PR xs k (rm L j) i) (fun j hj hLj hne => by
      have hLi : rm L j i = true := by rw [rm_ne (fun e => hne e.symm)]; exact hL
      exact ⟨PL_ok g k (rm L j) i (by omega) hi hLi, PR_bd g k (rm L j) i hi hLi⟩) xs.length (Nat.le_refl _)).1
    obtain ⟨z, z1, z2, z3, z4⟩ := h
    have hf := natR_le g.few
    have e6 : natR 6 = 6 := rfl
    have hu := uu_pos
    rw [e6] at hf
    rw [partR_all g hi hL] at z3 z4
    have h5 := mul_le_right hf (show 0 ≤ 5 * uu by grind)
    refine ⟨z, z1, z2, ?_, ?_⟩
    · rw [EE_succ]
      show z - accR _ _ _ _ _ ≤ _
      grind
    · rw [EE_succ]
      show accR _ _ _ _ _ - z ≤ _
      grind
/-- the operations at a place above the first, each a number -/
theorem PL_ops (g : Good xs) {k : Nat} {L : Nat → Bool} {i m : Nat} (hk : k ≤ 8) (hi : i < xs.length) (hL : L i = true) (hm : m < xs.length) (hLm : L m = true) (hne : m ≠ i) :
    single.div (FloatKind.f32.nearest (xs.getD m 0)) (FloatKind.f32.nearest (sumL xs L xs.length)) = some (qL xs L m) ∧
    single.mul (qL xs L m) (PL xs k (rm L m) i) = some (mulW (qL xs L m) (PL xs k (rm L m) i)) ∧
    single.add (accL L i (qL xs L) (fun j => PL xs k (rm L j) i) m) (mulW (qL xs L m) (PL xs k (rm L m) i)) = some (accL L i (qL xs L) (fun j => PL xs k (rm L j) i) (m + 1)) := by
  have hb := EE_bd (k := k) (by omega)
  have h := (acc_ok g hi hL hb.1 hb.2 (p := fun j => PL xs k (rm L j) i) (P := fun j => PR xs k (rm L j) i) (fun j hj hLj hne => by
      have hLi : rm L j i = true := by rw [rm_ne (fun e => hne e.symm)]; exact hL
      exact ⟨PL_ok g k (rm L j) i (by omega) hi hLi, PR_bd g k (rm L j) i hi hLi⟩) m (by omega)).2 hm hLm hne
  exact ⟨(qL_ok g hi hL hm hLm).1, h.1, h.2⟩
theorem PL_V (g : Good xs) {k : Nat} {L : Nat → Bool} {i : Nat} (hk : k ≤ 8) (hi : i < xs.length) (hL : L i = true) : ∃ x, V single (PL xs k L i) x := by
  obtain ⟨z, h, _⟩ := PL_ok g k L i hk hi hL
  exact ⟨z, h⟩
end
end Go.Proofs.Ytlfffkjgepgcfaa.pl
