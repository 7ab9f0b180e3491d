/-
  What each seat's prizes come to, in words and in rationals. Conditions: those of each theorem.
-/
import Derived.Test.YtlfffkjgepgcfaaPcS
namespace Go.Proofs.Ytlfffkjgepgcfaa.pl
open Go.RowKit
open base mem fl chance
open Ieee

def prW (xs ps : List Int) (i : Nat) : Nat → Nat
  | 0 => 0
  | m + 1 => addW (prW xs ps i m) (mulW (PL xs m allL i) (FloatKind.f32.nearest (ps.getD m 0)))
def psOk (xs ps : List Int) : Bool := sqOk xs && (decide (ps.length = xs.length) && !badB 1000000 0 ps)
def psTo (xs ps : List Int) (m : Nat) : List Nat := (List.range m).map fun i => prW xs ps i xs.length
def psOut (xs ps : List Int) : List Nat := if psOk xs ps then psTo xs ps xs.length else []
theorem psTo_succ (xs ps : List Int) (m : Nat) : psTo xs ps (m + 1) = psTo xs ps m ++ [prW xs ps m xs.length] := by simp [psTo, List.range_succ]
theorem psTo_len (xs ps : List Int) (m : Nat) : (psTo xs ps m).length = m := by simp [psTo]
theorem psTo_at {xs ps : List Int} {m k : Nat} (h : k < m) : (psTo xs ps m).getD k 0 = prW xs ps k xs.length := by simp [psTo, List.getD, h]
theorem EE_mono {a b : Nat} (h : a ≤ b) : EE a ≤ EE b := by
  have h1 := natR_le h
  have hu := uu_pos
  have h2 := mul_le_right h1 (show 0 ≤ 30 * uu by grind)
  unfold EE
  grind
def pz (ps : List Int) (k : Nat) : Rat := (ps.getD k 0 : Rat)
theorem prize_step {a c b : Nat} {x z p A P ea ep Q h : Rat} {M : Int} (hM : Fits single M) (hh : (2 : Rat) ^ (M - (single.fractionBits : Int)) = 2 * h) (h0 : 0 ≤ h) (hx : V single a x) (hz : V single c z) (hp : V single b p)
    (x0 : 0 ≤ x) (z0 : 0 ≤ z) (p0 : 0 ≤ p) (pQ : p ≤ Q) (P1 : P ≤ 1) (xa : x - A ≤ ea) (ax : A - x ≤ ea) (zp : z - P ≤ ep) (pz : P - z ≤ ep) (hep : ep ≤ 1 / 20) (hhQ : 10 * h ≤ Q) (room : A + ea + 2 * Q ≤ 2 ^ M) :
    single.mul c b = some (mulW c b) ∧ single.add a (mulW c b) = some (addW a (mulW c b)) ∧ ∃ r, V single (addW a (mulW c b)) r ∧ 0 ≤ r ∧ r - (A + P * p) ≤ ea + p * ep + 2 * h ∧ (A + P * p) - r ≤ ea + p * ep + 2 * h := by
  have k1 : (z - P) * p ≤ ep * p := mul_le_right zp p0
  have k2 : (P - z) * p ≤ ep * p := mul_le_right pz p0
  have k3 : P * p ≤ 1 * p := mul_le_right P1 p0
  have k4 : ep * p ≤ 1 / 20 * p := mul_le_right hep p0
  have m0 : 0 ≤ z * p := Rat.mul_nonneg z0 p0
  have e1 : z * p - P * p ≤ ep * p := by grind
  have e2 : P * p - z * p ≤ ep * p := by grind
  have Q0 : 0 ≤ Q := by grind
  have m1 : z * p ≤ 21 / 20 * Q := by grind
  obtain ⟨r, hr, w, hw, w1, w2, w3, w4, w5, w6, w7⟩ := mul_nr hM hz hp (by grind) (by grind)
  rw [hh] at w3 w4
  have q1 : mulW c b = r := by unfold mulW; rw [hr]; rfl
  rw [q1]
  have w0 := w5 m0
  obtain ⟨t, ht, v, hv, v1, v2, v3, v4, v5, v6, v7⟩ := add_nr hM hx hw (by grind) (by grind)
  rw [hh] at v3 v4
  have q2 : addW a r = t := by unfold addW; rw [ht]; rfl
  rw [q2]
  exact ⟨hr, ht, v, hv, v5 (by grind), by grind, by grind⟩
section
variable {xs ps : List Int}
theorem sum_pz {Q : Rat} : ∀ m, (∀ k, k < m → 0 ≤ pz ps k ∧ pz ps k ≤ Q) → 0 ≤ rs (pz ps) m ∧ rs (pz ps) m ≤ natR m * Q
  | 0, _ => by rw [natR_zero]; show (0 : Rat) ≤ 0 ∧ (0 : Rat) ≤ 0 * Q; grind
  | m + 1, h => by
    have h1 := sum_pz m (fun k hk => h k (by omega))
    have h2 := h m (by omega)
    show 0 ≤ rs (pz ps) m + pz ps m ∧ rs (pz ps) m + pz ps m ≤ _
    rw [natR_succ]
    grind
theorem prize_ok (g : Good xs) {Q h : Rat} {M : Int} (hM : Fits single M) (hh : (2 : Rat) ^ (M - (single.fractionBits : Int)) = 2 * h) (h0 : 0 ≤ h) (hhQ : 10 * h ≤ Q) (h9 : 9 * Q ≤ 2 ^ M) {i : Nat} (hi : i < xs.length) :
    ∀ m, m ≤ xs.length → (∀ k, k < m → 0 ≤ ps.getD k 0 ∧ ps.getD k 0 ≤ 1000000 ∧ pz ps k ≤ Q) →
      ∃ x, V single (prW xs ps i m) x ∧ 0 ≤ x ∧ x - rs (fun k => PR xs k allL i * pz ps k) m ≤ rs (pz ps) m * EE 5 + natR m * (2 * h) ∧ rs (fun k => PR xs k allL i * pz ps k) m - x ≤ rs (pz ps) m * EE 5 + natR m * (2 * h) ∧
        (∀ k, k < m → single.mul (PL xs k allL i) (FloatKind.f32.nearest (ps.getD k 0)) = some (mulW (PL xs k allL i) (FloatKind.f32.nearest (ps.getD k 0))) ∧ single.add (prW xs ps i k) (mulW (PL xs k allL i) (FloatKind.f32.nearest (ps.getD k 0))) = some (prW xs ps i (k + 1)))
  | 0, _, _ => by
    refine ⟨0, zero_V, Rat.le_refl, ?_, ?_, fun k hk => absurd hk (Nat.not_lt_zero k)⟩ <;> rw [natR_zero] <;> show (0 : Rat) - 0 ≤ 0 * EE 5 + 0 * (2 * h) <;> grind
  | m + 1, hm, hp => by
    obtain ⟨x, x1, x2, x3, x4, x5⟩ := prize_ok g hM hh h0 hhQ h9 hi m (by omega) (fun k hk => hp k (by omega))
    have hf := g.few
    obtain ⟨z, z1, z2, z3, z4⟩ := PL_ok g m allL i (by omega) hi rfl
    have hb := PR_bd g m allL i hi rfl
    obtain ⟨p1, p2, p3⟩ := hp m (by omega)
    have p4 : (0 : Rat) ≤ pz ps m := Rat.intCast_le_intCast.2 p1
    have hpv := int_exact p1 (by omega)
    have hE := EE_mono (show m ≤ 5 by omega)
    have hE5 := (EE_bd (k := 5) (by omega)).2
    have hE50 := (EE_bd (k := 5) (by omega)).1
    have hS := sum_pz (ps := ps) (Q := Q) m (fun k hk => ⟨Rat.intCast_le_intCast.2 (hp k (by omega)).1, (hp k (by omega)).2.2⟩)
    have hmn := natR_le (show m ≤ 5 by omega)
    have hm0 := natR_le (Nat.zero_le m)
    have e5 : natR 5 = 5 := rfl
    rw [e5] at hmn
    rw [natR_zero] at hm0
    have Q0 : 0 ≤ Q := by grind
    have k1 := mul_le_right hmn Q0
    have k2 := mul_le_right hmn (show 0 ≤ 2 * h by grind)
    have k3 := mul_le_right hE5 hS.1
    have hA : rs (fun k => PR xs k allL i * pz ps k) m ≤ rs (pz ps) m := rs_le m (fun k hk => by
      have h1 := (PR_bd g k allL i hi rfl).2
      have h2 : (0 : Rat) ≤ pz ps k := Rat.intCast_le_intCast.2 (hp k (by omega)).1
      have := mul_le_right h1 h2
      grind)
    obtain ⟨c1, c2, r, r1, r2, r3, r4⟩ := prize_step hM hh h0 x1 z1 hpv x2 z2 p4 p3 hb.2 x3 x4 (Rat.le_trans z3 hE) (Rat.le_trans z4 hE) hE5 hhQ (by grind)
    refine ⟨r, r1, r2, ?_, ?_, fun k hk => ?_⟩
    · show r - (rs _ m + _) ≤ (rs (pz ps) m + pz ps m) * EE 5 + natR (m + 1) * (2 * h)
      rw [natR_succ]
      change r - (rs _ m + PR xs m allL i * pz ps m) ≤ _ at r3
      change r - (rs _ m + PR xs m allL i * pz ps m) ≤ (rs (pz ps) m * EE 5 + natR m * (2 * h)) + pz ps m * EE 5 + 2 * h at r3
      grind
    · show (rs _ m + _) - r ≤ (rs (pz ps) m + pz ps m) * EE 5 + natR (m + 1) * (2 * h)
      rw [natR_succ]
      change (rs _ m + PR xs m allL i * pz ps m) - r ≤ (rs (pz ps) m * EE 5 + natR m * (2 * h)) + pz ps m * EE 5 + 2 * h at r4
      grind
    · rcases Nat.lt_succ_iff_lt_or_eq.1 hk with h1 | h1
      · exact x5 k h1
      · subst h1; exact ⟨c1, c2⟩
theorem fits24 : Fits single 24 := fits_single (by omega) (by omega)
theorem prize_big (g : Good xs) {i : Nat} (hi : i < xs.length) {m : Nat} (hm : m ≤ xs.length) (hp : ∀ k, k < m → 0 ≤ ps.getD k 0 ∧ ps.getD k 0 ≤ 1000000) :
    (∃ x, V single (prW xs ps i m) x) ∧ ∀ k, k < m → single.mul (PL xs k allL i) (FloatKind.f32.nearest (ps.getD k 0)) = some (mulW (PL xs k allL i) (FloatKind.f32.nearest (ps.getD k 0))) ∧ single.add (prW xs ps i k) (mulW (PL xs k allL i) (FloatKind.f32.nearest (ps.getD k 0))) = some (prW xs ps i (k + 1)) := by
  obtain ⟨x, h1, _, _, _, h5⟩ := prize_ok g (ps := ps) (Q := 1000000) (h := 1) (M := 24) fits24 (by decide +kernel) (by decide +kernel) (by decide +kernel) (by decide +kernel) hi m hm (fun k hk => ⟨(hp k hk).1, (hp k hk).2, Rat.intCast_le_intCast.2 (hp k hk).2⟩)
  exact ⟨⟨x, h1⟩, h5⟩
theorem psOk_facts (h : psOk xs ps = true) : sqOk xs = true ∧ ps.length = xs.length ∧ ∀ k, k < xs.length → 0 ≤ ps.getD k 0 ∧ ps.getD k 0 ≤ 1000000 := by
  simp only [psOk, Bool.and_eq_true, decide_eq_true_eq] at h
  obtain ⟨h1, h2, h3⟩ := h
  have h4 : badB 1000000 0 ps = false := by simpa using h3
  exact ⟨h1, h2, fun k hk => bad_at h4 (by omega)⟩
end
theorem psOut_len (xs ps : List Int) : (psOut xs ps).length ≤ 6 := by
  unfold psOut
  split
  · next h => rw [psTo_len]; exact (sqOk_good (psOk_facts h).1).1.few
  · simp
theorem psOut_num (xs ps : List Int) : NumF (psOut xs ps) := by
  unfold psOut
  split
  · next h =>
    intro k hk
    rw [psTo_len] at hk
    rw [psTo_at hk]
    exact (prize_big (sqOk_good (psOk_facts h).1).1 hk (Nat.le_refl _) (psOk_facts h).2.2).1
  · intro k hk; simp at hk
end Go.Proofs.Ytlfffkjgepgcfaa.pl
