/-
  The logarithm of both packages, in words of floats alone. Conditions: those of each theorem.
-/
import Derived.Test.YtlfffkjgepgcfaaFlx
namespace Go.Proofs.Ytlfffkjgepgcfaa.fl
open Ieee

def dv (a b : Nat) : Nat := (double.div a b).getD 0
def ml (a b : Nat) : Nat := (double.mul a b).getD 0
def ad (a b : Nat) : Nat := (double.add a b).getD 0
def sb (a b : Nat) : Nat := (double.sub a b).getD 0
/-- a whole number as a double -/
def fI (n : Int) : Nat := FloatKind.f64.nearest n
def up : Nat → Nat → Int → Nat × Int
  | 0, y, e => (y, e)
  | k + 1, y, e => if double.order y 4609434218613702656 = some .lt then (y, e) else up k (dv y 4611686018427387904) (e + 1)
def dn : Nat → Nat → Int → Nat × Int
  | 0, y, e => (y, e)
  | k + 1, y, e => if double.order y 4604930618986332160 = some .lt then dn k (ml y 4611686018427387904) (e - 1) else (y, e)
def norm (y : Nat) : Nat × Int := if double.order y 4604930618986332160 = some .lt then dn 200 y 0 else up 200 y 0
def sW (y : Nat) : Nat := dv (sb y 4607182418800017408) (ad y 4607182418800017408)
def uW (y : Nat) : Nat := ml (sW y) (sW y)
def dk (j : Nat) : Nat := dv 4607182418800017408 (fI (2 * (j : Int) + 1))
def qsF (F : Nat → Nat → Nat) : Nat → Nat → Nat
  | 0, q => q
  | j + 1, q => qsF F j (F j q)
def qs (u : Nat) : Nat → Nat → Nat := qsF fun j q => ad (dk j) (ml u q)
theorem qs_zero (u q : Nat) : qs u 0 q = q := by unfold qs; rw [qsF]
theorem qs_succ (u j q : Nat) : qs u (j + 1) q = qs u j (ad (dk j) (ml u q)) := by unfold qs; rw [qsF]
def qW (y : Nat) : Nat := qs (uW y) 13 0
def lW (y : Nat) (e : Int) : Nat := ad (ml 4611686018427387904 (ml (sW y) (qW y))) (ml (fI e) 4604418534313441775)
def logD (y : Nat) : Nat := lW (norm y).1 (norm y).2
def wd (x : Nat) : Nat := (floatToFloatBits .f32 x .f64).getD 0
def nw (x : Nat) : Nat := (floatToFloatBits .f64 x .f32).getD 0
def logW (x : Nat) : Nat := nw (logD (wd x))

theorem c75_V : V double 4604930618986332160 (3 / 4) := ⟨false, 6755399441055744, -53, by decide, by decide +kernel⟩
theorem c15_V : V double 4609434218613702656 (3 / 2) := ⟨false, 6755399441055744, -52, by decide, by decide +kernel⟩
theorem ln2_V : ∃ z, V double 4604418534313441775 z ∧ 0 ≤ z ∧ z ≤ 1 := ⟨_, ⟨false, 6243314768165359, -53, by decide, rfl⟩, by decide +kernel, by decide +kernel⟩
theorem lt75 {y : Nat} {v : Rat} (h : V double y v) : double.order y 4604930618986332160 = some .lt ↔ v < 3 / 4 := by
  rw [order_val h c75_V]
  by_cases h1 : v < 3 / 4
  · simp [h1]
  · rw [if_neg h1]
    by_cases h2 : v = 3 / 4
    · rw [if_pos h2]; simp [h1]
    · rw [if_neg h2]; simp [h1]
theorem lt15 {y : Nat} {v : Rat} (h : V double y v) : double.order y 4609434218613702656 = some .lt ↔ v < 3 / 2 := by
  rw [order_val h c15_V]
  by_cases h1 : v < 3 / 2
  · simp [h1]
  · rw [if_neg h1]
    by_cases h2 : v = 3 / 2
    · rw [if_pos h2]; simp [h1]
    · rw [if_neg h2]; simp [h1]
theorem p2s (k : Nat) : ((2 ^ (k + 1) : Nat) : Rat) = ((2 ^ k : Nat) : Rat) * 2 := by rw [Nat.pow_succ, Rat.natCast_mul]; rfl
theorem p2_300 : (2 : Rat) ≤ 2 ^ (300 : Int) := by
  have h := p2_mono (show (1 : Int) ≤ 300 by omega)
  rwa [Rat.zpow_one] at h
/-- one halving -/
theorem half_step {y : Nat} {v : Rat} {k : Nat} (h : V double y v) (h1 : 3 / 2 ≤ v) (h2 : v < 3 / 2 * ((2 ^ (k + 1) : Nat) : Rat)) (h3 : v ≤ 2 ^ (300 : Int)) : double.div y 4611686018427387904 = some (dv y 4611686018427387904) ∧ V double (dv y 4611686018427387904) (v / 2) ∧ 3 / 4 ≤ v / 2 ∧ v / 2 < 3 / 2 * ((2 ^ k : Nat) : Rat) ∧ v / 2 ≤ 2 ^ (300 : Int) := by
  have hm : (2 : Rat) ^ (-100 : Int) ≤ 2 ^ (0 : Int) := p2_mono (by omega)
  rw [Rat.zpow_zero] at hm
  obtain ⟨r, hr, hv⟩ := half_ok h (by grind) h3
  unfold dv
  rw [hr]
  rw [p2s] at h2
  have hh : v / 2 * 2 = v := Rat.div_mul_cancel (by decide)
  generalize v / 2 = z at *
  generalize ((2 ^ k : Nat) : Rat) = G at *
  have hp := p2_pos 300
  exact ⟨rfl, hv, by grind, by grind, by grind⟩
/-- one doubling -/
theorem dbl_step {y : Nat} {v : Rat} {k : Nat} (h : V double y v) (h0 : 0 < v) (h1 : v < 3 / 4) (h2 : 3 / 4 ≤ v * ((2 ^ (k + 1) : Nat) : Rat)) : double.mul y 4611686018427387904 = some (ml y 4611686018427387904) ∧ V double (ml y 4611686018427387904) (v * 2) ∧ 0 < v * 2 ∧ v * 2 < 3 / 2 ∧ 3 / 4 ≤ v * 2 * ((2 ^ k : Nat) : Rat) := by
  have hp := p2_300
  obtain ⟨r, hr, hv⟩ := dbl_ok h (by grind) (by grind)
  unfold ml
  rw [hr]
  rw [p2s] at h2
  exact ⟨rfl, hv, by grind, by grind, by grind⟩
theorem up_ok : ∀ (k y : Nat) (e : Int) (v : Rat), V double y v → 3 / 4 ≤ v → v < 3 / 2 * ((2 ^ k : Nat) : Rat) → v ≤ 2 ^ (300 : Int) → (∃ v', V double (up k y e).1 v' ∧ 3 / 4 ≤ v' ∧ v' < 3 / 2) ∧ e ≤ (up k y e).2 ∧ (up k y e).2 ≤ e + k
  | 0, y, e, v, h, h1, h2, _ => by
    rw [Nat.pow_zero, show ((1 : Nat) : Rat) = 1 from rfl] at h2
    exact ⟨⟨v, h, h1, by grind⟩, Int.le_refl _, by simp [up]⟩
  | k + 1, y, e, v, h, h1, h2, h3 => by
    unfold up
    by_cases hl : double.order y 4609434218613702656 = some .lt
    · rw [if_pos hl]
      exact ⟨⟨v, h, h1, (lt15 h).1 hl⟩, Int.le_refl _, by simp; omega⟩
    · rw [if_neg hl]
      have hge : 3 / 2 ≤ v := by
        have := mt (lt15 h).2 hl
        grind
      obtain ⟨_, a1, a2, a3, a4⟩ := half_step h hge h2 h3
      obtain ⟨b1, b2, b3⟩ := up_ok k _ (e + 1) _ a1 a2 a3 a4
      exact ⟨b1, by omega, by omega⟩
theorem dn_ok : ∀ (k y : Nat) (e : Int) (v : Rat), V double y v → 0 < v → v < 3 / 2 → 3 / 4 ≤ v * ((2 ^ k : Nat) : Rat) → (∃ v', V double (dn k y e).1 v' ∧ 3 / 4 ≤ v' ∧ v' < 3 / 2) ∧ (dn k y e).2 ≤ e ∧ e - k ≤ (dn k y e).2
  | 0, y, e, v, h, h0, h1, h2 => by
    rw [Nat.pow_zero, show ((1 : Nat) : Rat) = 1 from rfl] at h2
    exact ⟨⟨v, h, by grind, h1⟩, Int.le_refl _, by simp [dn]⟩
  | k + 1, y, e, v, h, h0, h1, h2 => by
    unfold dn
    by_cases hl : double.order y 4604930618986332160 = some .lt
    · rw [if_pos hl]
      obtain ⟨_, a1, a2, a3, a4⟩ := dbl_step h h0 ((lt75 h).1 hl) h2
      obtain ⟨b1, b2, b3⟩ := dn_ok k _ (e - 1) _ a1 a2 a3 a4
      exact ⟨b1, by omega, by omega⟩
    · rw [if_neg hl]
      have hge : 3 / 4 ≤ v := by
        have := mt (lt75 h).2 hl
        grind
      exact ⟨⟨v, h, hge, h1⟩, Int.le_refl _, by simp; omega⟩
theorem up_idle {k y : Nat} {e : Int} {v : Rat} (h : V double y v) (h1 : v < 3 / 2) : up k y e = (y, e) := by
  cases k with
  | zero => rfl
  | succ k => unfold up; rw [if_pos ((lt15 h).2 h1)]
theorem dn_idle {k y : Nat} {e : Int} {v : Rat} (h : V double y v) (h1 : 3 / 4 ≤ v) : dn k y e = (y, e) := by
  cases k with
  | zero => rfl
  | succ k =>
    unfold dn
    rw [if_neg]
    intro hl
    have := (lt75 h).1 hl
    grind
theorem up_go {k y : Nat} {e : Int} {v : Rat} (h : V double y v) (h1 : 3 / 2 ≤ v) : up (k + 1) y e = up k (dv y 4611686018427387904) (e + 1) := by
  rw [up, if_neg]
  intro hl
  have := (lt15 h).1 hl
  grind
theorem dn_go {k y : Nat} {e : Int} {v : Rat} (h : V double y v) (h1 : v < 3 / 4) : dn (k + 1) y e = dn k (ml y 4611686018427387904) (e - 1) := by
  rw [dn, if_pos ((lt75 h).2 h1)]
/-- sizes of those numbers whose logarithms are asked -/
structure Mid (v : Rat) : Prop where
  pos : 0 < v
  low : 3 / 4 ≤ v * ((2 ^ 200 : Nat) : Rat)
  high : v < 3 / 2 * ((2 ^ 200 : Nat) : Rat)
theorem Mid.top {v : Rat} (h : Mid v) : v ≤ 2 ^ (300 : Int) := by
  have h1 := h.high
  rw [← p2_nat] at h1
  have h2 : (2 : Rat) ^ ((200 : Nat) : Int) * 2 ≤ 2 ^ (300 : Int) := by
    rw [show (2 : Rat) ^ ((200 : Nat) : Int) * 2 = 2 ^ (((200 : Nat) : Int) + 1) from by rw [p2_add, Rat.zpow_one]]
    exact p2_mono (by omega)
  have := p2_pos ((200 : Nat) : Int)
  grind
theorem norm_ok {y : Nat} {v : Rat} (h : V double y v) (hm : Mid v) : (∃ v', V double (norm y).1 v' ∧ 3 / 4 ≤ v' ∧ v' < 3 / 2) ∧ -200 ≤ (norm y).2 ∧ (norm y).2 ≤ 200 := by
  unfold norm
  by_cases hl : double.order y 4604930618986332160 = some .lt
  · rw [if_pos hl]
    have h1 := (lt75 h).1 hl
    obtain ⟨a, b, c⟩ := dn_ok 200 y 0 v h hm.pos (by grind) hm.low
    exact ⟨a, by omega, by omega⟩
  · rw [if_neg hl]
    have h1 := mt (lt75 h).2 hl
    obtain ⟨a, b, c⟩ := up_ok 200 y 0 v h (by grind) hm.high hm.top
    exact ⟨a, by omega, by omega⟩
theorem up_dn {y : Nat} {v : Rat} (h : V double y v) (hm : Mid v) : up 200 (dn 200 y 0).1 (dn 200 y 0).2 = norm y := by
  unfold norm
  by_cases hl : double.order y 4604930618986332160 = some .lt
  · rw [if_pos hl]
    have h1 := (lt75 h).1 hl
    obtain ⟨⟨v', a, b, c⟩, _⟩ := dn_ok 200 y 0 v h hm.pos (by grind) hm.low
    rw [up_idle a c]
  · rw [if_neg hl]
    have h1 := mt (lt75 h).2 hl
    rw [dn_idle h (by grind)]
theorem dn_up {y : Nat} {v : Rat} (h : V double y v) (hm : Mid v) : dn 200 (up 200 y 0).1 (up 200 y 0).2 = norm y := by
  unfold norm
  by_cases hl : double.order y 4604930618986332160 = some .lt
  · rw [if_pos hl]
    have h1 := (lt75 h).1 hl
    rw [up_idle h (by grind)]
  · rw [if_neg hl]
    have h1 := mt (lt75 h).2 hl
    obtain ⟨⟨v', a, b, c⟩, _⟩ := up_ok 200 y 0 v h (by grind) hm.high hm.top
    rw [dn_idle a b]

/-! ### the row of powers -/
theorem dk_ok : ∀ j : Fin 13, double.div 4607182418800017408 (fI (2 * (j.val : Int) + 1)) = some (dk j) ∧ double.order (dk j) 0 = some .gt ∧ (double.order (dk j) 4607182418800017408 = some .lt ∨ double.order (dk j) 4607182418800017408 = some .eq) := by decide +kernel
theorem dk_V {j : Nat} (hj : j < 13) : double.div 4607182418800017408 (fI (2 * (j : Int) + 1)) = some (dk j) ∧ ∃ z, V double (dk j) z ∧ 0 ≤ z ∧ z ≤ 1 := by
  obtain ⟨h1, h2, h3⟩ := dk_ok ⟨j, hj⟩
  dsimp only at h1 h2 h3
  refine ⟨h1, ?_⟩
  cases hr : double.read (dk j) with
  | nan s t => rw [order_nan hr] at h2; cases h2
  | infinity s =>
    rw [order_zero_inf hr (show double.read 4607182418800017408 = .number false 4503599627370496 (-52) by decide)] at h3
    rw [order_zero_inf hr (show double.read 0 = .number false 0 (-1074) by decide)] at h2
    cases s
    · simp at h3
    · simp at h2
  | number s m e =>
    have hv : V double (dk j) (sv s ((m : Rat) * 2 ^ e)) := ⟨s, m, e, hr, rfl⟩
    generalize sv s ((m : Rat) * 2 ^ e) = x at hv
    rw [order_val hv zero_V64] at h2
    rw [order_val hv one_V64] at h3
    refine ⟨x, hv, ?_, ?_⟩
    · by_cases hx : x < 0
      · rw [if_pos hx] at h2; cases h2
      · grind
    · by_cases hx : x < 1
      · grind
      · rw [if_neg hx] at h3
        by_cases hx1 : x = 1
        · grind
        · rw [if_neg hx1] at h3; simp at h3
theorem one_le (k : Nat) : (1 : Rat) ≤ ((2 ^ k : Nat) : Rat) := nat_le.2 (Nat.one_le_two_pow (n := k))
theorem mul_le2 {a b A B : Rat} (ha : -A ≤ a) (ha2 : a ≤ A) (hb : -B ≤ b) (hb2 : b ≤ B) (_ : 0 ≤ A) : -(A * B) ≤ a * b ∧ a * b ≤ A * B := by
  have hB : 0 ≤ B := by grind
  have h1 : 0 ≤ (A - a) * (B - b) := Rat.mul_nonneg (by grind) (by grind)
  have h2 : 0 ≤ (A + a) * (B + b) := Rat.mul_nonneg (by grind) (by grind)
  have h3 : 0 ≤ (A - a) * (B + b) := Rat.mul_nonneg (by grind) (by grind)
  have h4 : 0 ≤ (A + a) * (B - b) := Rat.mul_nonneg (by grind) (by grind)
  constructor <;> grind
/-- one step of the row -/
theorem q_step {u q j n : Nat} {zu zq : Rat} (hj : j < 13) (hn : n ≤ 900) (hu : V double u zu) (hu0 : 0 ≤ zu) (hu1 : zu ≤ 1) (hq : V double q zq) (hq0 : -((2 ^ n : Nat) : Rat) ≤ zq) (hq1 : zq ≤ ((2 ^ n : Nat) : Rat)) :
    double.mul u q = some (ml u q) ∧ double.add (dk j) (ml u q) = some (ad (dk j) (ml u q)) ∧ ∃ z, V double (ad (dk j) (ml u q)) z ∧ -((2 ^ (n + 1) : Nat) : Rat) ≤ z ∧ z ≤ ((2 ^ (n + 1) : Nat) : Rat) := by
  obtain ⟨_, zd, hd, hd0, hd1⟩ := dk_V hj
  have hb := mul_le2 (show -(1 : Rat) ≤ zu by grind) hu1 hq0 hq1 (by decide)
  rw [Rat.one_mul] at hb
  have hG := one_le n
  have hG2 : ((2 ^ (n + 1) : Nat) : Rat) = ((2 ^ n : Nat) : Rat) * 2 := p2s n
  rw [← p2_nat] at hb
  obtain ⟨r, hr, z, hz, z1, z2, _⟩ := mul_nr (M := (n : Int)) (fits_double (by omega) (by omega)) hu hq hb.1 hb.2
  have e1 : ml u q = r := by unfold ml; rw [hr]; rfl
  rw [e1]
  rw [p2_nat] at z1 z2
  obtain ⟨t, ht, y, hy, y1, y2, _⟩ := add_nr (M := ((n + 1 : Nat) : Int)) (fits_double (by omega) (by omega)) hd hz (by rw [p2_nat, hG2]; grind) (by rw [p2_nat, hG2]; grind)
  have e2 : ad (dk j) r = t := by unfold ad; rw [ht]; rfl
  rw [e2]
  rw [p2_nat] at y1 y2
  exact ⟨hr, ht, y, hy, y1, y2⟩
theorem qs_ok {u : Nat} {zu : Rat} (hu : V double u zu) (hu0 : 0 ≤ zu) (hu1 : zu ≤ 1) (j : Nat) : ∀ (n q : Nat) (zq : Rat), j ≤ 13 → n + j ≤ 900 → V double q zq → -((2 ^ n : Nat) : Rat) ≤ zq → zq ≤ ((2 ^ n : Nat) : Rat) → ∃ z, V double (qs u j q) z ∧ -((2 ^ (n + j) : Nat) : Rat) ≤ z ∧ z ≤ ((2 ^ (n + j) : Nat) : Rat) := by
  induction j with
  | zero =>
    intro n q zq _ _ h h1 h2
    rw [qs_zero, Nat.add_zero]
    exact ⟨zq, h, h1, h2⟩
  | succ j ih =>
    intro n q zq hj hn h h1 h2
    obtain ⟨_, _, z, a1, a2, a3⟩ := q_step (show j < 13 by omega) (show n ≤ 900 by omega) hu hu0 hu1 h h1 h2
    have := ih (n + 1) _ z (by omega) (by omega) a1 a2 a3
    rw [show n + 1 + j = n + (j + 1) by omega] at this
    rw [qs_succ]
    exact this

/-! ### the parts around it -/
/-- what the steps before and behind the row give -/
structure Parts (y : Nat) (e : Int) : Prop where
  s1 : double.sub y 4607182418800017408 = some (sb y 4607182418800017408)
  s2 : double.add y 4607182418800017408 = some (ad y 4607182418800017408)
  s3 : double.div (sb y 4607182418800017408) (ad y 4607182418800017408) = some (sW y)
  s4 : double.mul (sW y) (sW y) = some (uW y)
  u : ∃ z, V double (uW y) z ∧ 0 ≤ z ∧ z ≤ 1
  t1 : double.mul (sW y) (qW y) = some (ml (sW y) (qW y))
  t2 : double.mul 4611686018427387904 (ml (sW y) (qW y)) = some (ml 4611686018427387904 (ml (sW y) (qW y)))
  t3 : double.mul (fI e) 4604418534313441775 = some (ml (fI e) 4604418534313441775)
  t4 : double.add (ml 4611686018427387904 (ml (sW y) (qW y))) (ml (fI e) 4604418534313441775) = some (lW y e)
  l : ∃ z, V double (lW y e) z ∧ -2 ^ (15 : Int) ≤ z ∧ z ≤ 2 ^ (15 : Int)
theorem parts_ok {y : Nat} {e : Int} {v : Rat} (h : V double y v) (h1 : 3 / 4 ≤ v) (h2 : v < 3 / 2) (he : -200 ≤ e) (he2 : e ≤ 200) : Parts y e := by
  have p0 : (2 : Rat) ^ (0 : Int) = 1 := Rat.zpow_zero _
  have p2 : (2 : Rat) ^ (2 : Int) = 4 := by decide +kernel
  have p8 : (2 : Rat) ^ (8 : Int) = 256 := by decide +kernel
  have p13 : (2 : Rat) ^ (13 : Int) = 8192 := by decide +kernel
  have p14 : (2 : Rat) ^ (14 : Int) = 16384 := by decide +kernel
  have p15 : (2 : Rat) ^ (15 : Int) = 32768 := by decide +kernel
  have n13 : ((2 ^ 13 : Nat) : Rat) = 8192 := by decide +kernel
  obtain ⟨a, ha, za, ga, a1, a2, _⟩ := sub_nr (M := 0) (fits_double (by omega) (by omega)) h one_V64 (by rw [p0]; grind) (by rw [p0]; grind)
  obtain ⟨b, hb, zb, gb, _, b2, _, _, _, _, b3⟩ := add_nr (M := 2) (fits_double (by omega) (by omega)) h one_V64 (by rw [p2]; grind) (by rw [p2]; grind)
  have b4 := b3 0 (by decide) (by rw [p0]; grind)
  rw [p0] at a1 a2 b4
  have hb0 : zb ≠ 0 := by grind
  have q1 : -1 ≤ za / zb ∧ za / zb ≤ 1 := by
    have hz : za / zb * zb = za := Rat.div_mul_cancel hb0
    constructor
    · exact le_of_mul (c := zb) (by rw [hz]; grind) (by grind)
    · exact le_of_mul (c := zb) (by rw [hz]; grind) (by grind)
  obtain ⟨s, q, hs, ⟨zs, gs, s1, s2, _⟩, _⟩ := div_nr (M := 0) (fits_double (by omega) (by omega)) ga gb hb0 (by rw [p0]; exact q1.1) (by rw [p0]; exact q1.2)
  rw [p0] at s1 s2
  have m1 := mul_le2 s1 s2 s1 s2 (by decide)
  rw [Rat.one_mul] at m1
  have m0 : 0 ≤ zs * zs := by
    by_cases hz : 0 ≤ zs
    · exact Rat.mul_nonneg hz hz
    · have := Rat.mul_nonneg (show 0 ≤ -zs by grind) (show 0 ≤ -zs by grind)
      grind
  obtain ⟨u, hu, zu, gu, u1, u2, _, _, u3, _⟩ := mul_nr (M := 0) (fits_double (by omega) (by omega)) gs gs (by rw [p0]; exact m1.1) (by rw [p0]; exact m1.2)
  rw [p0] at u1 u2
  have e1 : sb y 4607182418800017408 = a := by unfold sb; rw [ha]; rfl
  have e2 : ad y 4607182418800017408 = b := by unfold ad; rw [hb]; rfl
  have e3 : sW y = s := by unfold sW dv; rw [e1, e2, hs]; rfl
  have e4 : uW y = u := by unfold uW ml; rw [e3, hu]; rfl
  obtain ⟨zq, gq, k1, k2⟩ := qs_ok gu (u3 m0) u2 13 0 0 0 (Nat.le_refl _) (by omega) zero_V64 (by decide +kernel) (by decide +kernel)
  rw [Nat.zero_add] at k1 k2
  have e5 : qs u 13 0 = qW y := by unfold qW; rw [e4]
  rw [e5] at gq
  rw [n13] at k1 k2
  have m2 := mul_le2 s1 s2 k1 k2 (by decide)
  rw [Rat.one_mul] at m2
  obtain ⟨c, hc, zc, gc, c1, c2, _⟩ := mul_nr (M := 13) (fits_double (by omega) (by omega)) gs gq (by rw [p13]; exact m2.1) (by rw [p13]; exact m2.2)
  rw [p13] at c1 c2
  obtain ⟨d, hd, zd, gd, d1, d2, _⟩ := mul_nr (M := 14) (fits_double (by omega) (by omega)) two_V64 gc (by rw [p14]; grind) (by rw [p14]; grind)
  rw [p14] at d1 d2
  have hee : -(256 : Rat) ≤ (e : Rat) ∧ (e : Rat) ≤ 256 := by
    have x1 := Rat.intCast_le_intCast.2 (show (-256 : Int) ≤ e by omega)
    have x2 := Rat.intCast_le_intCast.2 (show e ≤ (256 : Int) by omega)
    exact ⟨x1, x2⟩
  obtain ⟨zf, gf, f1, f2, _⟩ := int_nr (k := .f64) (M := 8) (fits_double (by omega) (by omega)) (n := e) (by rw [p8]; exact hee.1) (by rw [p8]; exact hee.2)
  rw [p8] at f1 f2
  obtain ⟨zl, gl, l0, l1⟩ := ln2_V
  have m3 := mul_le2 f1 f2 (show -(1 : Rat) ≤ zl by grind) l1 (by decide)
  rw [Rat.mul_one] at m3
  obtain ⟨g, hg, zg, gg, g1, g2, _⟩ := mul_nr (f := double) (M := 8) (fits_double (by omega) (by omega)) gf gl (by rw [p8]; exact m3.1) (by rw [p8]; exact m3.2)
  rw [p8] at g1 g2
  obtain ⟨t, ht, zt, gt, t1, t2, _⟩ := add_nr (f := double) (M := 15) (fits_double (by omega) (by omega)) gd gg (by rw [p15]; grind) (by rw [p15]; grind)
  have e6 : ml (sW y) (qW y) = c := by unfold ml; rw [e3, hc]; rfl
  have e7 : ml 4611686018427387904 c = d := by unfold ml; rw [hd]; rfl
  have e8 : ml (fI e) 4604418534313441775 = g := by unfold ml fI; rw [hg]; rfl
  have e9 : lW y e = t := by unfold lW; rw [e6, e7, e8]; unfold ad; rw [ht]; rfl
  refine ⟨by rw [e1]; exact ha, by rw [e2]; exact hb, by rw [e1, e2, e3]; exact hs, by rw [e3, e4]; exact hu, by rw [e4]; exact ⟨zu, gu, u3 m0, u2⟩, by rw [e6, e3]; exact hc, by rw [e6, e7]; exact hd, by rw [e8]; exact hg, by rw [e6, e7, e8, e9]; exact ht, ?_⟩
  rw [e9]
  exact ⟨zt, gt, t1, t2⟩
/-- a double of middle size made single: always a number -/
theorem narrow_V {b : Nat} {x : Rat} (h : V double b x) (h1 : -2 ^ (100 : Int) ≤ x) (h2 : x ≤ 2 ^ (100 : Int)) : floatToFloatBits .f64 b .f32 = some (nw b) ∧ ∃ z, V single (nw b) z ∧ Nr single 100 x (nw b) := by
  obtain ⟨s, m, e, hr, rfl⟩ := h
  have hn := write_nr (f := single) (M := 100) (fits_single (by omega) (by omega)) (s := s) (mag := m) (place := e) rfl h1 h2
  obtain ⟨z, hz, hz'⟩ := hn
  have hw : floatToFloatBits .f64 b .f32 = some (single.write (.number s m e)) := by
    unfold floatToFloatBits
    have hd : FloatKind.f64.decode b = .number s m e := hr
    rw [if_neg (by decide), hd]
    have : ((FloatKind.f32.decode (FloatKind.f32.encode (.number s m e))).isInfinity) = false := V_notinf hz
    simp only [this]
    rfl
  have e1 : nw b = single.write (.number s m e) := by unfold nw; rw [hw]; rfl
  rw [hw, e1]
  exact ⟨rfl, z, hz, z, hz, hz'⟩

end Go.Proofs.Ytlfffkjgepgcfaa.fl
