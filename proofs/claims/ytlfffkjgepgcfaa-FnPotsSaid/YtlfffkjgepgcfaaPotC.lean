/-
  A fair call gains nearly nothing, in words of floats. Conditions: those of each theorem.
-/
import Derived.Test.YtlfffkjgepgcfaaPotG
import Derived.Test.YtlfffkjgepgcfaaGain
import Derived.Test.YtlfffkjgepgcfaaFlx
namespace Go.Proofs.Ytlfffkjgepgcfaa.chance
open Go.RowKit
open base mem fl

open Ieee
theorem exact_int {n : Nat} (h : n < 16777216) : V single (FloatKind.f32.nearest (n : Int)) (n : Rat) := by
  have h1 : (n : Rat) ≤ ((2 ^ 24 : Nat) : Rat) := nat_le.2 (by omega)
  rw [← p2_nat] at h1
  have h0 : (0 : Rat) ≤ (n : Rat) := by exact_mod_cast Nat.zero_le n
  have hp := p2_pos ((24 : Nat) : Int)
  refine write_exact (f := single) (M := ((24 : Nat) : Int)) (fits_single (by omega) (by omega)) (s := decide ((n : Int) < 0)) (mag := (n : Int).natAbs) (place := 0) ?_ (by grind) h1 ⟨false, n, 0, ?_, by rw [show 2 * single.binade = 16777216 by decide]; exact h, by decide⟩
  · rw [decide_eq_false (by omega), Rat.zpow_zero, Rat.mul_one]; rfl
  · rw [Rat.zpow_zero, Rat.mul_one]; rfl
/-- a single number made double is told exactly -/
theorem wide_exact {b : Nat} {x : Rat} (h : V single b x) : floatToFloatBits .f32 b .f64 = some (wd b) ∧ V double (wd b) x := by
  obtain ⟨b2, z, hw, hz, _⟩ := wide_V h
  have e1 : wd b = b2 := by unfold wd; rw [hw]; rfl
  rw [e1]
  refine ⟨hw, ?_⟩
  obtain ⟨h1, h2⟩ := V_bound h
  obtain ⟨s, m, e, hr, rfl⟩ := h
  have hm := (read_bound hr).1
  have he : -149 ≤ e := by
    unfold Format.read at hr
    dsimp only at hr
    have hll : single.leastPlace = -149 := by decide
    rw [hll] at hr
    split at hr
    · injection hr with _ h1 h2; omega
    · split at hr
      · injection hr with _ h1 h2; omega
      · split at hr <;> cases hr
  have hv := write_exact (f := double) (M := 128) (fits_double (by omega) (by omega)) (s := s) (mag := m) (place := e) rfl h1 h2 ⟨s, m, e, rfl, Nat.lt_of_lt_of_le hm (by decide), by rw [show double.leastPlace = -1074 by decide]; omega⟩
  have hw2 : floatToFloatBits .f32 b .f64 = some (double.write (.number s m e)) := by
    unfold floatToFloatBits
    have hd : FloatKind.f32.decode b = .number s m e := hr
    rw [if_neg (by decide), hd]
    have : ((FloatKind.f64.decode (FloatKind.f64.encode (.number s m e))).isInfinity) = false := V_notinf hv
    simp only [this]
    rfl
  rw [hw] at hw2
  rw [Option.some.inj hw2]
  exact hv
theorem pm16 : (2 : Rat) ^ (8 - (single.fractionBits : Int)) = 1 / 32768 := by decide +kernel
theorem pm24 : (2 : Rat) ^ (0 - (single.fractionBits : Int)) = 1 / 8388608 := by decide +kernel
theorem p8 : (2 : Rat) ^ (8 : Int) = 256 := by decide +kernel
theorem eq_of_mul {a b c : Rat} (h : a * c = b * c) (hc : 0 < c) : a = b := Rat.le_antisymm (le_of_mul (by rw [h]; exact Rat.le_refl) hc) (le_of_mul (by rw [h]; exact Rat.le_refl) hc)
/-- the gain of a call at fair odds -/
theorem gain_small {p k x y : Nat} (hp : p ≤ 199) (hk1 : 1 ≤ k) (hk : k ≤ 100) (hxy : x * (p + k) = y * k) (hx : x ≤ y) (hy1 : 1 ≤ y) (hy : y ≤ 1000) :
    ∃ c, floatBits .quo .f32 (floatOfInt .f32 (x : Int)) (floatOfInt .f32 (y : Int)) = some c ∧ cgOk c p k = true ∧ ∃ z, V single (cgOut c p k) z ∧ -(1 / 1000 : Rat) ≤ z ∧ z ≤ 1 / 1000 := by
  have vx := exact_int (n := x) (by omega)
  have vy := exact_int (n := y) (by omega)
  have vp := exact_int (n := p) (by omega)
  have vk := exact_int (n := k) (by omega)
  have x0 : (0 : Rat) ≤ (x : Rat) := by exact_mod_cast Nat.zero_le x
  have y1 : (1 : Rat) ≤ (y : Rat) := by exact_mod_cast hy1
  have p0' : (0 : Rat) ≤ (p : Rat) := by exact_mod_cast Nat.zero_le p
  have pp : (p : Rat) ≤ 199 := by exact_mod_cast hp
  have k0 : (0 : Rat) ≤ (k : Rat) := by exact_mod_cast Nat.zero_le k
  have kk : (k : Rat) ≤ 100 := by exact_mod_cast hk
  have xy : (x : Rat) ≤ (y : Rat) := nat_le.2 hx
  have e1 : (x : Rat) * ((p : Rat) + (k : Rat)) = (y : Rat) * (k : Rat) := by
    have : ((x * (p + k) : Nat) : Rat) = ((y * k : Nat) : Rat) := by rw [hxy]
    rwa [Rat.natCast_mul, Rat.natCast_mul, Rat.natCast_add] at this
  have hyne : (y : Rat) ≠ 0 := by grind
  obtain ⟨q, hq⟩ : ∃ q : Rat, q = (x : Rat) / (y : Rat) := ⟨_, rfl⟩
  have hqy : q * (y : Rat) = (x : Rat) := by rw [hq]; exact Rat.div_mul_cancel hyne
  have q0 : 0 ≤ q := le_of_mul (c := (y : Rat)) (by rw [hqy]; grind) (by grind)
  have q1 : q ≤ 1 := le_of_mul (c := (y : Rat)) (by rw [hqy]; grind) (by grind)
  have eq : q * ((p : Rat) + (k : Rat)) = (k : Rat) := by
    have h1 : q * (y : Rat) * ((p : Rat) + (k : Rat)) = (y : Rat) * (k : Rat) := by rw [hqy, e1]
    have h2 : (q * ((p : Rat) + (k : Rat))) * (y : Rat) = (k : Rat) * (y : Rat) := by grind
    exact eq_of_mul h2 (by grind)
  obtain ⟨c, q', hc, ⟨z, hz, z1, z2, z3, z4, z5, z6, z7⟩, hqq, _⟩ := div_nr (f := single) (M := 0) (fits_single (by omega) (by omega)) vx vy hyne (by rw [p0, ← hq]; grind) (by rw [p0, ← hq]; exact q1)
  rw [← hq] at hqq
  obtain ⟨q'0, q'1, q'2⟩ := hqq q0
  rw [show ((2 ^ (single.fractionBits + 2) : Nat) : Rat) = 33554432 by decide +kernel] at q'1 q'2
  rw [pm24] at z3 z4
  rw [p0] at z1 z2
  have z0 := z5 q'0
  -- the chance
  have hsh : shB c = true := by
    unfold shB geq0 leq1
    rw [order_val hz zero_V, order_val hz one_V32]
    have g1 : ((some (if z < 0 then Ordering.lt else if z = 0 then Ordering.eq else Ordering.gt) == some Ordering.gt) || (some (if z < 0 then Ordering.lt else if z = 0 then Ordering.eq else Ordering.gt) == some Ordering.eq)) = true := by
      rw [if_neg (by grind)]
      by_cases h : z = 0
      · rw [if_pos h]; rfl
      · rw [if_neg h]; rfl
    have g2 : ((some (if z < 1 then Ordering.lt else if z = 1 then Ordering.eq else Ordering.gt) == some Ordering.lt) || (some (if z < 1 then Ordering.lt else if z = 1 then Ordering.eq else Ordering.gt) == some Ordering.eq)) = true := by
      by_cases h : z < 1
      · rw [if_pos h]; rfl
      · rw [if_neg h, if_pos (by grind)]; rfl
    rw [g1, g2]; rfl
  have hok : cgOk c p k = true := by
    unfold cgOk
    rw [hsh, inB_mk (by omega) (by omega), inB_mk (by omega) (by omega)]
    rfl
  refine ⟨c, hc, hok, ?_⟩
  have hout : cgOut c p k = cgW c p k := by unfold cgOut; rw [if_pos hok]
  rw [hout]
  -- the parts
  have m1 : z * (p : Rat) ≤ 256 := by
    have := mul_le_right z2 p0'
    grind
  have m0 : 0 ≤ z * (p : Rat) := Rat.mul_nonneg z0 p0'
  obtain ⟨a, ha, za, hza, _, _, a3, a4, _⟩ := mul_nr (f := single) (M := 8) (fits_single (by omega) (by omega)) hz vp (by rw [p8]; grind) (by rw [p8]; exact m1)
  obtain ⟨d, hd, zd, hzd, d1, d2, d3, d4, d5, _⟩ := sub_nr (f := single) (M := 0) (fits_single (by omega) (by omega)) one_V32 hz (by rw [p0]; grind) (by rw [p0]; grind)
  rw [p0] at d1 d2
  rw [pm24] at d3 d4
  have d0 := d5 (by grind)
  have n1 : zd * (k : Rat) ≤ 256 := by
    have := mul_le_right d2 k0
    grind
  have n0 : 0 ≤ zd * (k : Rat) := Rat.mul_nonneg d0 k0
  obtain ⟨b, hb, zb, hzb, _, _, b3, b4, _⟩ := mul_nr (f := single) (M := 8) (fits_single (by omega) (by omega)) hzd vk (by rw [p8]; grind) (by rw [p8]; exact n1)
  rw [pm16] at a3 a4 b3 b4
  -- the sizes
  have w1 : (z - q) * (p : Rat) ≤ 1 / 8388608 * 199 ∧ -(1 / 8388608 * 199) ≤ (z - q) * (p : Rat) := by
    have := mul_le2 (A := 1 / 8388608) (B := 199) (show -(1 / 8388608 : Rat) ≤ z - q by grind) (show z - q ≤ 1 / 8388608 by grind) (show -(199 : Rat) ≤ (p : Rat) by grind) pp (by grind)
    exact ⟨this.2, this.1⟩
  have w2 : (zd - (1 - q)) * (k : Rat) ≤ 1 / 4194304 * 100 ∧ -(1 / 4194304 * 100) ≤ (zd - (1 - q)) * (k : Rat) := by
    have := mul_le2 (A := 1 / 4194304) (B := 100) (show -(1 / 4194304 : Rat) ≤ zd - (1 - q) by grind) (show zd - (1 - q) ≤ 1 / 4194304 by grind) (show -(100 : Rat) ≤ (k : Rat) by grind) kk (by grind)
    exact ⟨this.2, this.1⟩
  have e3 : q * (p : Rat) - (1 - q) * (k : Rat) = 0 := by grind
  have s1 : za - zb ≤ 1 / 5000 := by
    have t1 : (z - q) * (p : Rat) = z * (p : Rat) - q * (p : Rat) := by grind
    have t2 : (zd - (1 - q)) * (k : Rat) = zd * (k : Rat) - (1 - q) * (k : Rat) := by grind
    rw [t1] at w1
    rw [t2] at w2
    generalize z * (p : Rat) = A at *
    generalize q * (p : Rat) = B at *
    generalize zd * (k : Rat) = C at *
    generalize (1 - q) * (k : Rat) = D at *
    grind
  have s2 : -(1 / 5000 : Rat) ≤ za - zb := by
    have t1 : (z - q) * (p : Rat) = z * (p : Rat) - q * (p : Rat) := by grind
    have t2 : (zd - (1 - q)) * (k : Rat) = zd * (k : Rat) - (1 - q) * (k : Rat) := by grind
    rw [t1] at w1
    rw [t2] at w2
    generalize z * (p : Rat) = A at *
    generalize q * (p : Rat) = B at *
    generalize zd * (k : Rat) = C at *
    generalize (1 - q) * (k : Rat) = D at *
    grind
  obtain ⟨r, hr, zr, hzr, _, _, r3, r4, _⟩ := sub_nr (f := single) (M := 0) (fits_single (by omega) (by omega)) hza hzb (by rw [p0]; grind) (by rw [p0]; grind)
  rw [pm24] at r3 r4
  have eA : cgA c p = a := by unfold cgA; rw [ha]; rfl
  have eD : cgD c = d := by unfold cgD; rw [hd]; rfl
  have eB : cgB c k = b := by unfold cgB; rw [eD, hb]; rfl
  have eW : cgW c p k = r := by unfold cgW; rw [eA, eB, hr]; rfl
  rw [eW]
  exact ⟨zr, hzr, by grind, by grind⟩
/-- how far from 0 a small double is -/
theorem c01_V : ∃ z, V double 4576918229304087675 z ∧ (1 / 200 : Rat) ≤ z := ⟨_, ⟨false, 5764607523034235, -59, by decide, rfl⟩, by decide +kernel⟩
theorem gap_small {b : Nat} {x : Rat} (h : V double b x) (h1 : -(1 / 1000 : Rat) ≤ x) (h2 : x ≤ 1 / 1000) : ∃ g, gapW b 0 = some g ∧ (double.order g 4576918229304087675 == some .gt) = false := by
  have pm : (2 : Rat) ^ (0 - (double.fractionBits : Int)) = 1 / 4503599627370496 := by decide +kernel
  obtain ⟨zc, hc, c1⟩ := c01_V
  have key : ∀ g zg, V double g zg → zg ≤ 1 / 500 → (double.order g 4576918229304087675 == some .gt) = false := by
    intro g zg hg hl
    rw [order_val hg hc, if_pos (by grind)]; rfl
  unfold gapW
  rw [order_val h zero_V64]
  by_cases hx : x < 0
  · rw [if_pos hx, if_pos rfl]
    obtain ⟨g, hg, z, hz, _, _, z3, z4, _⟩ := sub_nr (f := double) (M := 0) (fits_double (by omega) (by omega)) zero_V64 h (by rw [p0]; grind) (by rw [p0]; grind)
    rw [pm] at z3 z4
    exact ⟨g, hg, key g z hz (by grind)⟩
  · rw [if_neg hx, if_neg (by by_cases h0 : x = 0 <;> simp [h0])]
    obtain ⟨g, hg, z, hz, _, _, z3, z4, _⟩ := sub_nr (f := double) (M := 0) (fits_double (by omega) (by omega)) h zero_V64 (by rw [p0]; grind) (by rw [p0]; grind)
    rw [pm] at z3 z4
    exact ⟨g, hg, key g z hz (by grind)⟩

end Go.Proofs.Ytlfffkjgepgcfaa.chance
