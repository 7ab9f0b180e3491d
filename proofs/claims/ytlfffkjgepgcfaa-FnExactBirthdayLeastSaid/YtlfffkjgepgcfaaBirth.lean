/-
  BirthdayLeast of both packages answers the same. Conditions: those of each theorem.
-/
import Derived.Test.YtlfffkjgepgcfaaApp
import Derived.Test.YtlfffkjgepgcfaaFl
namespace Go.Proofs.Ytlfffkjgepgcfaa.chance
open Go.RowKit
open base mem fl

/-! ### no program in sight -/
theorem half_V : V Ieee.double 4602678819172646912 (1 / 2) := ⟨false, 4503599627370496, -53, by decide, by decide +kernel⟩
theorem one_V : V Ieee.double 4607182418800017408 1 := ⟨false, 4503599627370496, -52, by decide, by decide +kernel⟩
def qB (d k : Nat) : Nat := (Ieee.double.div (FloatKind.f64.nearest ((d : Int) - k)) (FloatKind.f64.nearest d)).getD 0
def bp (d : Nat) : Nat → Nat
  | 0 => 4607182418800017408
  | k + 1 => (Ieee.double.mul (bp d k) (qB d k)).getD 0
def gtB (d k : Nat) : Bool := Ieee.double.order (bp d k) 4602678819172646912 == some .gt
theorem qB_ok (d k : Nat) (hd : 1 ≤ d) (hd2 : d ≤ 1000000) (hk : k ≤ d) : ∃ q, Ieee.double.div (FloatKind.f64.nearest ((d : Int) - k)) (FloatKind.f64.nearest d) = some (qB d k) ∧ V Ieee.double (qB d k) q ∧ 0 ≤ q ∧ q ≤ 1 ∧ (k = d → q = 0) := by
  have hp : (2 : Rat) ^ (20 : Int) = 1048576 := by decide +kernel
  have h20 : ((1048576 : Nat) : Rat) = 1048576 := rfl
  obtain ⟨m, hm⟩ : ∃ m : Nat, (d : Int) - k = m := ⟨d - k, by omega⟩
  rw [hm]
  have c1 : ((m : Int) : Rat) ≤ 2 ^ (20 : Int) := by rw [hp, ← h20]; exact nat_le.2 (by omega)
  have c2 : ((d : Int) : Rat) ≤ 2 ^ (20 : Int) := by rw [hp, ← h20]; exact nat_le.2 (by omega)
  have c3 : (0 : Rat) ≤ ((m : Int) : Rat) := nat_le.2 (Nat.zero_le m)
  have c4 : (1 : Rat) ≤ ((d : Int) : Rat) := nat_le.2 hd
  obtain ⟨x, hx, x1, x2, x3, x4, x5, x6, x7⟩ := int_nr (k := .f64) (fits_double (M := 20) (by omega) (by omega)) (n := (m : Int)) (by rw [hp]; grind) c1
  obtain ⟨y, hy, y1, y2, y3, y4, y5, y6, y7⟩ := int_nr (k := .f64) (fits_double (M := 20) (by omega) (by omega)) (n := (d : Int)) (by rw [hp]; grind) c2
  have hy1 : (1 : Rat) ≤ y := by
    have := y7 0 (by decide) (by rw [Rat.zpow_zero]; exact c4)
    rwa [Rat.zpow_zero] at this
  have hx0 := x5 c3
  have e1 : (2 : Rat) ^ ((20 : Int) - (FloatKind.f64.format.fractionBits : Int)) ≤ 1 := by decide +kernel
  -- x / y ≤ 2
  have hmd : ((m : Int) : Rat) ≤ ((d : Int) : Rat) := nat_le.2 (by omega)
  have hxy : x ≤ y := by
    by_cases hmd2 : m = d
    · subst hmd2
      rw [V_fun hx hy]
      exact Rat.le_refl
    · have h3 : ((m : Int) : Rat) + 1 ≤ ((d : Int) : Rat) := by
        have := nat_le.2 (show m + 1 ≤ d by omega)
        rw [Rat.natCast_add] at this
        exact this
      grind
  have hy0 : (0 : Rat) < y := by grind
  have q1 : x / y ≤ 1 := by
    refine le_of_mul (c := y) ?_ hy0
    rw [Rat.div_mul_cancel (by grind)]; grind
  have q0 : 0 ≤ x / y := by
    refine le_of_mul (c := y) ?_ hy0
    rw [Rat.div_mul_cancel (by grind)]; grind
  have p1 : (2 : Rat) ^ (0 : Int) = 1 := Rat.zpow_zero _
  obtain ⟨r, q, hr, ⟨z, hz, z1, z2, z3, z4, z5, z6, z7⟩, hq1, hq2⟩ := div_nr (f := Ieee.double) (M := 0) (fits_double (by omega) (by omega)) hx hy (by grind) (by rw [p1]; grind) (by rw [p1]; exact q1)
  have hqB : qB d k = r := by unfold qB; rw [hm, hr]; rfl
  rw [hqB]
  refine ⟨z, hr, hz, z5 (hq1 q0).1, by rw [p1] at z2; exact z2, fun hkd => ?_⟩
  have hm0 : m = 0 := by omega
  subst hm0
  have hx1 := x6 Rat.le_refl
  have hx2 : x = 0 := Rat.le_antisymm hx1 hx0
  have hq0 : x / y = 0 := by rw [hx2, Rat.div_def]; grind
  have a1 := (hq1 (by rw [hq0]; exact Rat.le_refl)).1
  have a2 := hq2 (by rw [hq0]; exact Rat.le_refl)
  exact Rat.le_antisymm (z6 a2) (z5 a1)
theorem bp_ok (d : Nat) (hd : 1 ≤ d) (hd2 : d ≤ 1000000) (k : Nat) (hk : k ≤ d + 1) : ∃ x, V Ieee.double (bp d k) x ∧ 0 ≤ x ∧ x ≤ 1 ∧ (k = d + 1 → x = 0) := by
  induction k with
  | zero => exact ⟨1, one_V, by grind, by grind, fun h => by omega⟩
  | succ k ih =>
    obtain ⟨x, hx, x0, x1, _⟩ := ih (by omega)
    obtain ⟨q, hqe, hq, q0, q1, q2⟩ := qB_ok d k hd hd2 (by omega)
    have p1 : (2 : Rat) ^ (0 : Int) = 1 := Rat.zpow_zero _
    have m0 : 0 ≤ x * q := Rat.mul_nonneg x0 q0
    have m1 : x * q ≤ 1 := by
      have := Rat.mul_le_mul_of_nonneg_left q1 x0
      grind
    obtain ⟨r, hr, ⟨z, hz, z1, z2, z3, z4, z5, z6, z7⟩⟩ := mul_nr (f := Ieee.double) (M := 0) (fits_double (by omega) (by omega)) hx hq (by rw [p1]; grind) (by rw [p1]; exact m1)
    have hb : bp d (k + 1) = r := by rw [bp, hr]; rfl
    rw [hb]
    refine ⟨z, hz, z5 m0, by rw [p1] at z2; exact z2, fun h => ?_⟩
    have h1 := q2 (by omega)
    subst h1
    have h2 : x * 0 = 0 := by grind
    rw [h2] at z5 z6
    exact Rat.le_antisymm (z6 Rat.le_refl) (z5 Rat.le_refl)
theorem bp_step (d : Nat) (hd : 1 ≤ d) (hd2 : d ≤ 1000000) (k : Nat) (hk : k ≤ d) : Ieee.double.div (FloatKind.f64.nearest ((d : Int) - k)) (FloatKind.f64.nearest d) = some (qB d k) ∧ Ieee.double.mul (bp d k) (qB d k) = some (bp d (k + 1)) := by
  obtain ⟨x, hx, x0, x1, _⟩ := bp_ok d hd hd2 k (by omega)
  obtain ⟨q, hqe, hq, q0, q1, q2⟩ := qB_ok d k hd hd2 hk
  have p1 : (2 : Rat) ^ (0 : Int) = 1 := Rat.zpow_zero _
  have m0 : 0 ≤ x * q := Rat.mul_nonneg x0 q0
  have m1 : x * q ≤ 1 := by
    have := Rat.mul_le_mul_of_nonneg_left q1 x0
    grind
  obtain ⟨r, hr, _⟩ := mul_nr (f := Ieee.double) (M := 0) (fits_double (by omega) (by omega)) hx hq (by rw [p1]; grind) (by rw [p1]; exact m1)
  exact ⟨hqe, by rw [bp, hr]; rfl⟩
theorem gt_end (d : Nat) (hd : 1 ≤ d) (hd2 : d ≤ 1000000) : gtB d (d + 1) = false := by
  obtain ⟨x, hx, x0, x1, x2⟩ := bp_ok d hd hd2 (d + 1) (Nat.le_refl _)
  unfold gtB
  rw [order_val hx half_V, x2 rfl, if_pos (by decide +kernel)]
  rfl
def leastB (d : Nat) : Nat → Nat → Nat
  | 0, k => k
  | n + 1, k => if gtB d k then leastB d n (k + 1) else k
theorem leastB_eq (d n s k : Nat) (h1 : s ≤ k) (h2 : k ≤ s + n) (hg : ∀ j, s ≤ j → j < k → gtB d j = true) (hk : gtB d k = false) : leastB d n s = k := by
  induction n generalizing s with
  | zero => simp [leastB]; omega
  | succ n ih =>
    unfold leastB
    by_cases he : s = k
    · subst he; rw [hk]; simp
    · rw [if_pos (hg s (Nat.le_refl _) (by omega))]
      exact ih (s + 1) (by omega) (by omega) fun j h3 h4 => hg j (by omega) h4
def biOk (d : Int) : Bool := inB d 1 1000000
def biOut (d : Int) : Nat := if biOk d then leastB d.toNat (d.toNat + 1) 0 else 0

set_option maxHeartbeats 1000000 in
theorem spec_BirthdayLeast (n : Int) (w : World) : Calls Try.prog 14 #[.int .i64 n] w fun e w' => e = .returned (.tuple #[.int .i64 (biOut n), .bool (biOk n)]) ∧ Below w.heap.size w w' := by
  cases h1 : inB n 1 1000000
  · have hK : biOk n = false := h1
    have hO : biOut n = 0 := by simp [biOut, hK]
    rw [hO, hK]
    clear hO hK
    go_enter Try.func14, Try.ntmps14
    go_wp2_with (go_at_call 53; refine (l00In_any _ _ _ _).mono ?_; rintro e w' ⟨rfl, rfl⟩)
    go_ret2
    exact ⟨rfl, Below.refl _ _⟩
  obtain ⟨a1, a2⟩ := inB_yes h1
  obtain ⟨d, rfl⟩ := Int.eq_ofNat_of_zero_le (show 0 ≤ n by omega)
  have hK : biOk (d : Int) = true := h1
  have HO := hide (show biOut (d : Int) = leastB d (d + 1) 0 by simp [biOut, hK])
  rw [hK]
  obtain ⟨OUT, hOUT⟩ := ex_eq (biOut (d : Int))
  rw [hOUT] at HO ⊢
  clear hOUT hK
  have hd1 : 1 ≤ d := by omega
  have hd2 : d ≤ 1000000 := by omega
  have HB := hide (bp_step d hd1 hd2)
  have HE := hide (gt_end d hd1 hd2)
  go_enter Try.func14, Try.ntmps14
  go_wp2_with (go_at_call 53; refine (l00In_any _ _ _ _).mono ?_; rintro e w' ⟨rfl, rfl⟩)
  clear h1
  go_loop [4, 5] (fun x n => ∃ k : Nat, k ≤ d + 1 ∧ x = .float .f64 (bp d k) ∧ n = .int .i64 k ∧ Hid (∀ j, j < k → gtB d j = true)) (fun _ n => d + 1 - (intOf n).toNat)
  case atStart => exact ⟨0, Nat.zero_le _, rfl, rfl, fun j hj => absurd hj (Nat.not_lt_zero j)⟩
  case round =>
    obtain ⟨k, hk, rfl, rfl, hg⟩ := hrel
    cases hgt : gtB d k
    · have HL := hide (leastB_eq d (d + 1) 0 k (Nat.zero_le _) (by omega) (fun j _ hj => hg.out j hj) hgt)
      have ho : (FloatKind.f64.format.order (bp d k) 4602678819172646912 == some .gt) = false := hgt
      generalize bp d k = x at *
      go_wp2
      go_ret2
      exact ⟨by rw [HO.out, HL.out]; rfl, Below.refl _ _⟩
    · have hkd : k ≤ d := by
        rcases Nat.lt_or_ge d k with h | h
        · have h2 : k = d + 1 := by omega
          rw [h2, HE.out] at hgt
          cases hgt
        · exact h
      have HG := hide (show ∀ j, j < k + 1 → gtB d j = true from fun j hj => by rcases Nat.lt_succ_iff_lt_or_eq.1 hj with h | h; exact hg.out j h; rw [h]; exact hgt)
      have ho : (FloatKind.f64.format.order (bp d k) 4602678819172646912 == some .gt) = true := hgt
      obtain ⟨hq, hm⟩ := HB.out k hkd
      have HS := hide (show bp d (k + 1) = bp d (k + 1) from rfl)
      have r1 : ∀ w, (binOp .quo 29 (.float .f64 (floatOfInt .f64 ((d : Int) - k))) (.float .f64 (floatOfInt .f64 d))).run Try.prog w = .ok (.float .f64 (qB d k)) w := fun w => run_float_arith (P := Try.prog) w .quo 29 .f64 _ _ _ hq
      have r2 : ∀ w, (binOp .mul 29 (.float .f64 (bp d k)) (.float .f64 (qB d k))).run Try.prog w = .ok (.float .f64 (bp d (k + 1))) w := fun w => run_float_arith (P := Try.prog) w .mul 29 .f64 _ _ _ hm
      clear hq hm hgt HS
      go_wp2
      go_round
      case rel => exact ⟨k + 1, by omega, rfl, by go_num, HG.out⟩
      case measure => simp [intOf]; omega

set_option maxHeartbeats 1000000 in
theorem impl_BirthdayLeast (n : Int) (w : World) : Calls Try.prog 15 #[.int .i64 n] w fun e w' => e = .returned (.tuple #[.int .i64 (biOut n), .bool (biOk n)]) ∧ Below w.heap.size w w' := by
  cases h1 : inB n 1 1000000
  · have hK : biOk n = false := h1
    have hO : biOut n = 0 := by simp [biOut, hK]
    rw [hO, hK]
    clear hO hK
    go_enter Try.func15, Try.ntmps15
    go_wp2_with (go_at_call 54; refine (within_any _ _ _ _).mono ?_; rintro e w' ⟨rfl, rfl⟩)
    go_ret2
    exact ⟨rfl, Below.refl _ _⟩
  obtain ⟨a1, a2⟩ := inB_yes h1
  obtain ⟨d, rfl⟩ := Int.eq_ofNat_of_zero_le (show 0 ≤ n by omega)
  have hK : biOk (d : Int) = true := h1
  have HO := hide (show biOut (d : Int) = leastB d (d + 1) 0 by simp [biOut, hK])
  rw [hK]
  obtain ⟨OUT, hOUT⟩ := ex_eq (biOut (d : Int))
  rw [hOUT] at HO ⊢
  clear hOUT hK
  have hd1 : 1 ≤ d := by omega
  have hd2 : d ≤ 1000000 := by omega
  have HB := hide (bp_step d hd1 hd2)
  have HE := hide (gt_end d hd1 hd2)
  go_enter Try.func15, Try.ntmps15
  go_wp2_with (go_at_call 54; refine (within_any _ _ _ _).mono ?_; rintro e w' ⟨rfl, rfl⟩)
  clear h1
  go_loop [4, 5] (fun x n => ∃ k : Nat, k ≤ d + 1 ∧ x = .float .f64 (bp d k) ∧ n = .int .i64 k ∧ Hid (∀ j, j < k → gtB d j = true)) (fun _ n => d + 1 - (intOf n).toNat)
  case atStart => exact ⟨0, Nat.zero_le _, rfl, rfl, fun j hj => absurd hj (Nat.not_lt_zero j)⟩
  case round =>
    obtain ⟨k, hk, rfl, rfl, hg⟩ := hrel
    cases hgt : gtB d k
    · have HL := hide (leastB_eq d (d + 1) 0 k (Nat.zero_le _) (by omega) (fun j _ hj => hg.out j hj) hgt)
      have ho : (FloatKind.f64.format.order (bp d k) 4602678819172646912 == some .gt) = false := hgt
      generalize bp d k = x at *
      go_wp2
      go_ret2
      exact ⟨by rw [HO.out, HL.out]; rfl, Below.refl _ _⟩
    · have hkd : k ≤ d := by
        rcases Nat.lt_or_ge d k with h | h
        · have h2 : k = d + 1 := by omega
          rw [h2, HE.out] at hgt
          cases hgt
        · exact h
      have HG := hide (show ∀ j, j < k + 1 → gtB d j = true from fun j hj => by rcases Nat.lt_succ_iff_lt_or_eq.1 hj with h | h; exact hg.out j h; rw [h]; exact hgt)
      have ho : (FloatKind.f64.format.order (bp d k) 4602678819172646912 == some .gt) = true := hgt
      obtain ⟨hq, hm⟩ := HB.out k hkd
      have HS := hide (show bp d (k + 1) = bp d (k + 1) from rfl)
      have r1 : ∀ w, (binOp .quo 29 (.float .f64 (floatOfInt .f64 ((d : Int) - k))) (.float .f64 (floatOfInt .f64 d))).run Try.prog w = .ok (.float .f64 (qB d k)) w := fun w => run_float_arith (P := Try.prog) w .quo 29 .f64 _ _ _ hq
      have r2 : ∀ w, (binOp .mul 29 (.float .f64 (bp d k)) (.float .f64 (qB d k))).run Try.prog w = .ok (.float .f64 (bp d (k + 1))) w := fun w => run_float_arith (P := Try.prog) w .mul 29 .f64 _ _ _ hm
      clear hq hm hgt HS
      go_wp2
      go_round
      case rel => exact ⟨k + 1, by omega, rfl, by go_num, HG.out⟩
      case measure => simp [intOf]; omega

end Go.Proofs.Ytlfffkjgepgcfaa.chance
