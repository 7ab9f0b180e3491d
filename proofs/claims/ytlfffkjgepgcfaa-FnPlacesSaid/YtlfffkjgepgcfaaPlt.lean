/-
  The lists that the statement on places makes of its bytes, and that prizes are all given, nearly. Conditions: those of each theorem.
-/
import Derived.Test.YtlfffkjgepgcfaaPlw
import Derived.Test.YtlfffkjgepgcfaaB0W
namespace Go.Proofs.Ytlfffkjgepgcfaa.pl
open Go.RowKit
open base mem fl chance byts
open Ieee

def xsT (zs : List Int) (k : Nat) : List Int := (List.range k).map fun j => 1 + ((atN zs j 100 : Nat) : Int)
def psT (zs : List Int) (k : Nat) : List Int := (List.range k).map fun j => ((atN zs (10 + j) 50 : Nat) : Int)
theorem xsT_len (zs : List Int) (k : Nat) : (xsT zs k).length = k := by simp [xsT]
theorem psT_len (zs : List Int) (k : Nat) : (psT zs k).length = k := by simp [psT]
theorem xsT_succ (zs : List Int) (k : Nat) : xsT zs (k + 1) = xsT zs k ++ [1 + ((atN zs k 100 : Nat) : Int)] := by simp [xsT, List.range_succ]
theorem psT_succ (zs : List Int) (k : Nat) : psT zs (k + 1) = psT zs k ++ [((atN zs (10 + k) 50 : Nat) : Int)] := by simp [psT, List.range_succ]
theorem xsT_at {zs : List Int} {k j : Nat} (h : j < k) : (xsT zs k).getD j 0 = 1 + ((atN zs j 100 : Nat) : Int) := by simp [xsT, List.getD, h]
theorem psT_at {zs : List Int} {k j : Nat} (h : j < k) : (psT zs k).getD j 0 = ((atN zs (10 + j) 50 : Nat) : Int) := by simp [psT, List.getD, h]
theorem xsT_good {zs : List Int} {n : Nat} (h : n ≤ 6) : Good (xsT zs n) := by
  refine ⟨by rw [xsT_len]; exact h, fun k hk => ?_, fun k hk => ?_⟩ <;> rw [xsT_len] at hk <;> rw [xsT_at hk] <;> have := atN_lt zs k (m := 100) (by omega) <;> omega
theorem psT_in {zs : List Int} {n k : Nat} (hk : k < n) : 0 ≤ (psT zs n).getD k 0 ∧ (psT zs n).getD k 0 ≤ 49 := by
  rw [psT_at hk]
  have := atN_lt zs (10 + k) (m := 50) (by omega)
  omega
theorem sum_small {xs : List Int} (h : ∀ k, k < xs.length → 0 ≤ xs.getD k 0 ∧ xs.getD k 0 ≤ 100) : ∀ m, m ≤ xs.length → sumL xs allL m ≤ m * 100
  | 0, _ => by simp [sumL]
  | m + 1, hm => by
    have h1 := sum_small h m (by omega)
    have h2 := h m (by omega)
    show sumL xs allL m + xs.getD m 0 ≤ _
    omega
theorem xsT_sum {zs : List Int} {n : Nat} (h : n ≤ 5) : sumL (xsT zs n) allL (xsT zs n).length ≤ 1000 := by
  have h1 := sum_small (xs := xsT zs n) (fun k hk => by
    rw [xsT_len] at hk
    rw [xsT_at hk]
    have := atN_lt zs k (m := 100) (by omega)
    omega) (xsT zs n).length (Nat.le_refl _)
  have := xsT_len zs n
  omega
theorem xsT_ok {zs : List Int} {n : Nat} (h1 : 1 ≤ n) (h : n ≤ 6) : sqOk (xsT zs n) = true := good_sqOk (xsT_good h) (by rw [xsT_len]; exact h1)
theorem psT_ok {zs : List Int} {n : Nat} (h1 : 1 ≤ n) (h : n ≤ 6) : psOk (xsT zs n) (psT zs n) = true := by
  have hb : badB 1000000 0 (psT zs n) = false := bad_no fun j hj => by
    rw [psT_len] at hj
    have := psT_in (zs := zs) hj
    exact inB_mk this.1 (by omega)
  simp [psOk, xsT_ok h1 h, hb, xsT_len, psT_len]
/-- all prizes -/
def psN (zs : List Int) (n : Nat) : Int := (psT zs n).sum
theorem psN_rs (zs : List Int) (N : Nat) : ∀ n, n ≤ N → rs (pz (psT zs N)) n = ((psT zs n).sum : Rat)
  | 0, _ => by simp [psT, rs]
  | n + 1, h => by
    show rs _ n + pz (psT zs N) n = _
    rw [psN_rs zs N n (by omega), psT_succ, List.sum_append, Rat.intCast_add]
    unfold pz
    rw [psT_at (by omega)]
    simp
theorem psN_bd (zs : List Int) : ∀ n, 0 ≤ psN zs n ∧ psN zs n ≤ 49 * n
  | 0 => by simp [psN, psT]
  | n + 1 => by
    have h := psN_bd zs n
    have h2 := atN_lt zs (10 + n) (m := 50) (by omega)
    unfold psN at h ⊢
    rw [psT_succ, List.sum_append]
    simp
    omega
theorem int64_exact {n : Int} (h0 : 0 ≤ n) (h1 : n ≤ 4096) : V double (FloatKind.f64.nearest n) (n : Rat) := by
  have e0 : ((0 : Int) : Rat) ≤ (n : Rat) := Rat.intCast_le_intCast.2 h0
  have e1 : (n : Rat) ≤ ((4096 : Int) : Rat) := Rat.intCast_le_intCast.2 h1
  have p24 : (2 : Rat) ^ (12 : Int) = ((4096 : Int) : Rat) := by decide +kernel
  have hx : (n : Rat) = sv false ((n.natAbs : Rat) * 2 ^ (0 : Int)) := by
    have : ((n.natAbs : Int) : Rat) = (n : Rat) := by congr 1; omega
    rw [Rat.zpow_zero, Rat.mul_one, show ((n.natAbs : Nat) : Rat) = ((n.natAbs : Int) : Rat) from rfl, this]; rfl
  have hd : decide (n < 0) = false := decide_eq_false (by omega)
  refine write_exact (f := double) (M := 12) fits12 ?_ ?_ ?_ ?_ (s := decide (n < 0)) (mag := n.natAbs) (place := 0)
  · rw [hd]; exact hx
  · have := p2_pos 12
    have z : ((0 : Int) : Rat) = 0 := rfl
    grind
  · rw [p24]; exact e1
  · refine ⟨false, n.natAbs, 0, hx, ?_, by decide⟩
    have : double.binade = 4503599627370496 := by decide
    omega
/-- 0.001 and 0.01, as they stand in float64 -/
def k3 : Rat := 4611686018427388 * 2 ^ (-62 : Int)
def k2 : Rat := 5764607523034235 * 2 ^ (-59 : Int)
theorem k3_V : V double 4562254508917369340 k3 := ⟨false, 4611686018427388, -62, by decide, by unfold k3; decide +kernel⟩
theorem k2_V : V double 4576918229304087675 k2 := ⟨false, 5764607523034235, -59, by decide, by unfold k2; decide +kernel⟩
theorem k3_lo : 1 / 1001 ≤ k3 := by unfold k3; decide +kernel
theorem k2_lo : 1 / 101 ≤ k2 := by unfold k2; decide +kernel
theorem k2_hi : k2 ≤ 1 / 99 := by unfold k2; decide +kernel
/-- a sum near to 1: its distance from 1 is not above 0.001 -/
theorem near_one {a : Nat} {z : Rat} (hz : V double a z) (h1 : z - 1 ≤ 1 / 2000) (h2 : 1 - z ≤ 1 / 2000) : ∃ r, (if double.order a 4607182418800017408 = some .lt then double.sub 4607182418800017408 a else double.sub a 4607182418800017408) = some r ∧ (double.order r 4562254508917369340 == some .gt) = false := by
  obtain ⟨g1, y, g2, g3⟩ := gapD_ok hz one_V64 h1 h2 (by decide +kernel)
  have ht := tt_small
  have hk := k3_lo
  exact ⟨_, g1, not_gt g2 k3_V (by grind)⟩
section
variable {zs : List Int} {n : Nat}
theorem h15 : (2 : Rat) ^ ((9 : Int) - (single.fractionBits : Int)) = 2 * (2 ^ (-15 : Int)) := by decide +kernel
theorem h15s : 100000 * (2 : Rat) ^ (-15 : Int) ≤ 4 := by decide +kernel
theorem h15p : (0 : Rat) ≤ (2 : Rat) ^ (-15 : Int) := by decide +kernel
/-- what all seats get, summed up -/
theorem tot_ok (h1 : 1 ≤ n) (h5 : n ≤ 5) :
    (∃ z, V double (totW (xsT zs n) (psT zs n) n) z ∧ 0 ≤ z ∧ z - (psN zs n : Rat) ≤ 1 / 200 + (psN zs n : Rat) / 1000 ∧ (psN zs n : Rat) - z ≤ 1 / 200 + (psN zs n : Rat) / 1000) ∧
      ∀ k, k < n → floatToFloatBits .f32 (prW (xsT zs n) (psT zs n) k n) .f64 = some (wd (prW (xsT zs n) (psT zs n) k n)) ∧ double.add (totW (xsT zs n) (psT zs n) k) (wd (prW (xsT zs n) (psT zs n) k n)) = some (totW (xsT zs n) (psT zs n) (k + 1)) := by
  have g := xsT_good (zs := zs) (n := n) (by omega)
  have hl := xsT_len zs n
  have hP := psN_rs zs n n (Nat.le_refl _)
  have hS := sum_pz (ps := psT zs n) (Q := 49) n (fun k hk => ⟨Rat.intCast_le_intCast.2 (psT_in hk).1, Rat.intCast_le_intCast.2 (psT_in hk).2⟩)
  have hpn : ((psT zs n).sum : Rat) = (psN zs n : Rat) := rfl
  rw [hP, hpn] at hS
  generalize (psN zs n : Rat) = P at *
  have hn5 := natR_le h5
  have e5 : natR 5 = 5 := rfl
  rw [e5] at hn5
  have hn1 := natR_le h1
  have e1 : natR 1 = 1 := rfl
  rw [e1] at hn1
  have hu := uu_small
  have hu0 := uu_pos
  have hs := h15s
  have hp := h15p
  have hh := h15
  have ht := tt_small
  have ht0 := tt_pos
  have hE := EE5
  generalize (2 : Rat) ^ (-15 : Int) = h at *
  have hP49 : P ≤ 245 := by have := mul_le_right hn5 (show (0 : Rat) ≤ 49 by decide +kernel); grind
  have k1 := mul_le_right hn5 (show 0 ≤ 2 * h by grind)
  have k0 := mul_le_right hn1 (show 0 ≤ 2 * h by grind)
  have hu2 : 152 * uu ≤ 1 / 50000 := by unfold uu; decide +kernel
  have k3' : P * EE 5 ≤ P * (1 / 50000) := Rat.mul_le_mul_of_nonneg_left (by rw [hE]; exact hu2) hS.1
  have kp : 0 ≤ P * EE 5 := Rat.mul_nonneg hS.1 (by rw [hE]; grind)
  have he0 : 0 ≤ P * EE 5 + natR n * (2 * h) := by grind
  have he1 : P * EE 5 + natR n * (2 * h) ≤ P * (1 / 50000) + 10 * h := by grind
  obtain ⟨e, hee⟩ := ex_eq (P * EE 5 + natR n * (2 * h))
  have hx : ∀ i, i < n → ∃ x, V single (prW (xsT zs n) (psT zs n) i n) x ∧ 0 ≤ x ∧ x - rs (fun k => PR (xsT zs n) k allL i * pz (psT zs n) k) n ≤ e ∧ rs (fun k => PR (xsT zs n) k allL i * pz (psT zs n) k) n - x ≤ e ∧ x ≤ 300 := by
    intro i hi
    obtain ⟨x, x1, x2, x3, x4, _⟩ := prize_ok g (ps := psT zs n) (Q := 49) (h := h) (M := 9) (fits_single (by omega) (by omega)) hh hp (by grind) (by decide +kernel) (i := i) (by rw [hl]; exact hi) n (by rw [hl]; exact Nat.le_refl _)
      (fun k hk => ⟨(psT_in hk).1, by have := (psT_in (zs := zs) hk).2; omega, Rat.intCast_le_intCast.2 (psT_in hk).2⟩)
    rw [hP, hpn] at x3 x4
    have hA : rs (fun k => PR (xsT zs n) k allL i * pz (psT zs n) k) n ≤ rs (pz (psT zs n)) n := rs_le n (fun k hk => by
      have h1 := (PR_bd g k allL i (by rw [hl]; exact hi) rfl).2
      have h2 : (0 : Rat) ≤ pz (psT zs n) k := Rat.intCast_le_intCast.2 (psT_in hk).1
      have := mul_le_right h1 h2
      grind)
    rw [hP, hpn] at hA
    rw [hee] at x3 x4 he1
    exact ⟨x, x1, x2, x3, x4, by grind⟩
  rw [hee] at he0 he1
  have hF : rs (fun i => rs (fun k => PR (xsT zs n) k allL i * pz (psT zs n) k) n) n = P := by
    rw [rs_swap, ← hpn, ← hP]
    refine rs_congr _ fun k hk => ?_
    have hc : rs (fun i => PR (xsT zs n) k allL i) (xsT zs n).length = 1 := col_one g k allL (by rw [cnt_all, hl]; exact hk)
    rw [hl] at hc
    have h2 : rs (fun i => PR (xsT zs n) k allL i * pz (psT zs n) k) n = rs (fun i => pz (psT zs n) k * PR (xsT zs n) k allL i) n := rs_congr _ fun i _ => by grind
    rw [h2, rs_mul, hc, Rat.mul_one]
  have hT : totW (xsT zs n) (psT zs n) = sumD (fun i => prW (xsT zs n) (psT zs n) i n) := by unfold totW; rw [hl]
  obtain ⟨⟨z, z1, z2, _, z4, z5⟩, hops⟩ := sumD_ok (f := fun i => prW (xsT zs n) (psT zs n) i n) (F := fun i => rs (fun k => PR (xsT zs n) k allL i * pz (psT zs n) k) n) (e := e) (B := 300) he0 (by grind) (by decide +kernel) (by decide +kernel) n (by omega) hx
  rw [hF] at z4 z5
  have k4 := mul_le_right hn5 (show 0 ≤ e + tt by grind)
  rw [hT]
  exact ⟨⟨z, z1, z2, by grind, by grind⟩, hops⟩
/-- the last test on prizes fails -/
theorem tot_test (h1 : 1 ≤ n) (h5 : n ≤ 5) : ∃ r s t, (if double.order (totW (xsT zs n) (psT zs n) n) (FloatKind.f64.nearest (psN zs n)) = some .lt then double.sub (FloatKind.f64.nearest (psN zs n)) (totW (xsT zs n) (psT zs n) n) else double.sub (totW (xsT zs n) (psT zs n) n) (FloatKind.f64.nearest (psN zs n))) = some r ∧
    double.add 4607182418800017408 (totW (xsT zs n) (psT zs n) n) = some s ∧ double.mul 4576918229304087675 s = some t ∧ (double.order r t == some .gt) = false := by
  obtain ⟨⟨z, z1, z2, z3, z4⟩, _⟩ := tot_ok (zs := zs) h1 h5
  have hb := psN_bd zs n
  have hv := int64_exact hb.1 (show psN zs n ≤ 4096 by omega)
  have hP0 : (0 : Rat) ≤ (psN zs n : Rat) := Rat.intCast_le_intCast.2 hb.1
  have hP1 : (psN zs n : Rat) ≤ 245 := Rat.intCast_le_intCast.2 (show psN zs n ≤ 245 by omega)
  have ht := tt_small
  have ht0 := tt_pos
  obtain ⟨g1, y, g2, g3⟩ := gapD_ok z1 hv z3 z4 (by grind)
  obtain ⟨a1, u, a2, a3, a4, _⟩ := addD_ok one_V64 z1 (by grind) (by grind)
  have c1 := k2_lo
  have c2 := k2_hi
  have m1 := mul_le_right c1 (show 0 ≤ u by grind)
  have m2 := mul_le_right c2 (show 0 ≤ u by grind)
  obtain ⟨b1, v, b2, b3, b4⟩ := mulD_ok k2_V a2 (by grind) (by grind)
  exact ⟨_, _, _, g1, a1, b1, not_gt g2 b2 (by grind)⟩
end
end Go.Proofs.Ytlfffkjgepgcfaa.pl
