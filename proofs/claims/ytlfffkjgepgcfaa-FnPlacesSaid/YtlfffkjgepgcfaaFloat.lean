/-
  Floats in the program: small tests, conversions, and when two of them are told the same. Conditions: those of each theorem.
-/
import Derived.Test.YtlfffkjgepgcfaaApp
import Derived.Test.YtlfffkjgepgcfaaFl
namespace Go.Proofs.Ytlfffkjgepgcfaa.fl
open Go.RowKit
open base mem

open Ieee
theorem zero_V : V single 0 0 := ⟨false, 0, -149, by decide, by decide +kernel⟩
theorem one_V32 : V single 1065353216 1 := ⟨false, 8388608, -23, by decide, by decide +kernel⟩
theorem zero_V64 : V double 0 0 := ⟨false, 0, -1074, by decide, by decide +kernel⟩
theorem one_V64 : V double 4607182418800017408 1 := ⟨false, 4503599627370496, -52, by decide, by decide +kernel⟩

/-- not below 0 -/
def geq0 (c : Nat) : Bool := single.order c 0 == some .gt || single.order c 0 == some .eq
def leq1 (c : Nat) : Bool := single.order c 1065353216 == some .lt || single.order c 1065353216 == some .eq
def shB (c : Nat) : Bool := geq0 c && leq1 c
theorem order_zero_inf {f : Format} {a b : Nat} {s : Bool} (h : f.read a = .infinity s) {t : Bool} {m : Nat} {e : Int} (k : f.read b = .number t m e) : f.order a b = some (if s then .lt else .gt) := by
  unfold Format.order
  rw [h, k]
  rfl
theorem order_nan {f : Format} {a b : Nat} {s : Bool} {t : Nat} (h : f.read a = .nan s t) : f.order a b = none := by
  unfold Format.order
  rw [h]
  rfl
theorem shB_V {c : Nat} (h : shB c = true) : ∃ x, V single c x ∧ 0 ≤ x ∧ x ≤ 1 := by
  unfold shB at h
  rw [Bool.and_eq_true] at h
  obtain ⟨h1, h2⟩ := h
  unfold geq0 at h1
  unfold leq1 at h2
  cases hc : single.read c with
  | nan s t => rw [order_nan hc] at h1; cases h1
  | infinity s =>
    rw [order_zero_inf hc (show single.read 0 = .number false 0 (-149) by decide)] at h1
    rw [order_zero_inf hc (show single.read 1065353216 = .number false 8388608 (-23) by decide)] at h2
    cases s
    · cases h2
    · cases h1
  | number s m e =>
    have hv : V single c (sv s ((m : Rat) * 2 ^ e)) := ⟨s, m, e, hc, rfl⟩
    generalize sv s ((m : Rat) * 2 ^ e) = x at hv
    rw [order_val hv zero_V] at h1
    rw [order_val hv one_V32] at h2
    refine ⟨x, hv, ?_, ?_⟩
    · by_cases hx : x < 0
      · rw [if_pos hx] at h1; cases h1
      · grind
    · by_cases hx : x < 1
      · grind
      · rw [if_neg hx] at h2
        by_cases hx1 : x = 1
        · grind
        · rw [if_neg hx1] at h2; cases h2
theorem read_bound {b : Nat} {s : Bool} {m : Nat} {e : Int} (h : single.read b = .number s m e) : m < 2 ^ 24 ∧ e ≤ 104 := by
  unfold Format.read at h
  dsimp only at h
  have hb : single.binade = 8388608 := by decide
  have hi : single.infRung = 2139095040 := by decide
  have hl : single.leastPlace = -149 := by decide
  rw [hb, hi, hl] at h
  generalize b % single.signWeight = r at h
  split at h
  · injection h with _ h1 h2
    subst h1 h2
    constructor <;> omega
  · split at h
    · injection h with _ h1 h2
      subst h1 h2
      constructor <;> omega
    · split at h <;> cases h
theorem V_bound {b : Nat} {x : Rat} (h : V single b x) : -2 ^ (128 : Int) ≤ x ∧ x ≤ 2 ^ (128 : Int) := by
  obtain ⟨s, m, e, hr, rfl⟩ := h
  obtain ⟨h1, h2⟩ := read_bound hr
  refine sv_abs (Rat.mul_nonneg (by exact_mod_cast Nat.zero_le _) (Rat.le_of_lt (p2_pos _))) ?_
  have a1 : (m : Rat) ≤ ((2 ^ 24 : Nat) : Rat) := nat_le.2 (by omega)
  have a2 := mul_le_right a1 (Rat.le_of_lt (p2_pos e))
  rw [← p2_nat, ← p2_add] at a2
  exact Rat.le_trans a2 (p2_mono (by omega))
theorem V_notinf {f : Format} {b : Nat} {x : Rat} (h : V f b x) : (f.read b).isInfinity = false := by
  obtain ⟨s, m, e, hr, _⟩ := h
  rw [hr]; rfl
/-- a single number made double: always a number -/
theorem wide_V {b : Nat} {x : Rat} (h : V single b x) : ∃ b2 z, floatToFloatBits .f32 b .f64 = some b2 ∧ V double b2 z ∧ Nr double 128 x b2 := by
  obtain ⟨h1, h2⟩ := V_bound h
  obtain ⟨s, m, e, hr, rfl⟩ := h
  have hn := write_nr (f := double) (M := 128) (fits_double (by omega) (by omega)) (s := s) (mag := m) (place := e) rfl h1 h2
  obtain ⟨z, hz, hz'⟩ := hn
  refine ⟨_, z, ?_, hz, ⟨z, hz, hz'⟩⟩
  unfold floatToFloatBits
  have hd : FloatKind.f32.decode b = .number s m e := hr
  rw [if_neg (by decide), hd]
  have : ((FloatKind.f64.decode (FloatKind.f64.encode (.number s m e))).isInfinity) = false := V_notinf hz
  simp only [this]
  rfl
theorem order_self {f : Format} {b : Nat} {x : Rat} (h : V f b x) : f.order b b = some .eq := by
  rw [order_val h h, if_neg (by grind), if_pos rfl]
/-- x - x is 0 -/
theorem sub_self {b : Nat} {x : Rat} (h : V single b x) : ∃ r, single.sub b b = some r ∧ single.order r 0 = some .eq := by
  have e : x - x = 0 := by grind
  have p1 : (2 : Rat) ^ (0 : Int) = 1 := Rat.zpow_zero _
  obtain ⟨r, hr, z, hz, _, _, _, _, z5, z6, _⟩ := sub_nr (f := single) (M := 0) (fits_single (by omega) (by omega)) h h (by rw [e, p1]; grind) (by rw [e, p1]; grind)
  rw [e] at z5 z6
  have hz0 : z = 0 := Rat.le_antisymm (z6 Rat.le_refl) (z5 Rat.le_refl)
  subst hz0
  exact ⟨r, hr, by rw [order_val hz zero_V, if_neg (by grind), if_pos rfl]⟩
theorem inv_zero {b : Nat} (h : V double b 0) : ∃ r, double.div 4607182418800017408 b = some r := by
  obtain ⟨s, m, e, hr, h0⟩ := h
  have hm : m = 0 := (V_zero hr).1 h0.symm
  subst hm
  unfold Format.div
  rw [hr, show double.read 4607182418800017408 = .number false 4503599627370496 (-52) by decide]
  exact ⟨_, rfl⟩

theorem isChance_any (c : Nat) (w : World) : Calls Try.prog 56 #[.float .f32 c] w fun e w' => e = .returned (.bool (shB c)) ∧ w = w' := by
  cases h1 : geq0 c
  · have hK : shB c = false := by simp [shB, h1]
    rw [hK]
    have h1' : (FloatKind.f32.format.order c 0 == some .gt || FloatKind.f32.format.order c 0 == some .eq) = false := h1
    clear h1 hK
    go_enter Try.func56, Try.ntmps56
    go_wp2
    go_ret
    exact ⟨rfl, rfl⟩
  · cases h2 : leq1 c
    all_goals
      have hK : shB c = leq1 c := by simp [shB, h1]
      rw [hK, h2]
      have h1' : (FloatKind.f32.format.order c 0 == some .gt || FloatKind.f32.format.order c 0 == some .eq) = true := h1
      have h2' := h2
      unfold leq1 at h2'
      have h2'' := (show (FloatKind.f32.format.order c 1065353216 == some .lt || FloatKind.f32.format.order c 1065353216 == some .eq) = _ from h2')
      clear h1 h2 h2' hK
      go_enter Try.func56, Try.ntmps56
      go_wp2
      go_ret
      exact ⟨rfl, rfl⟩

theorem l02Share_any (c : Nat) (w : World) : Calls Try.prog 55 #[.float .f32 c] w fun e w' => e = .returned (.bool (shB c)) ∧ w = w' := by
  cases h1 : geq0 c
  · have hK : shB c = false := by simp [shB, h1]
    rw [hK]
    have h1' : (FloatKind.f32.format.order c 0 == some .gt || FloatKind.f32.format.order c 0 == some .eq) = false := h1
    clear h1 hK
    go_enter Try.func55, Try.ntmps55
    go_wp2
    go_ret
    exact ⟨rfl, rfl⟩
  · cases h2 : leq1 c
    all_goals
      have hK : shB c = leq1 c := by simp [shB, h1]
      rw [hK, h2]
      have h1' : (FloatKind.f32.format.order c 0 == some .gt || FloatKind.f32.format.order c 0 == some .eq) = true := h1
      have h2' := h2
      unfold leq1 at h2'
      have h2'' := (show (FloatKind.f32.format.order c 1065353216 == some .lt || FloatKind.f32.format.order c 1065353216 == some .eq) = _ from h2')
      clear h1 h2 h2' hK
      go_enter Try.func55, Try.ntmps55
      go_wp2
      go_ret
      exact ⟨rfl, rfl⟩

theorem IsFinite_V {c : Nat} {x : Rat} (h : V single c x) (w : World) : Calls Try.prog 77 #[.float .f32 c] w fun e w' => e = .returned (.bool true) ∧ w = w' := by
  obtain ⟨r, hr, ho⟩ := sub_self h
  have r1 : ∀ w, (binOp .sub 25 (.float .f32 c) (.float .f32 c)).run Try.prog w = .ok (.float .f32 r) w := fun w => run_float_arith (P := Try.prog) w .sub 25 .f32 _ _ _ hr
  have ho' : FloatKind.f32.format.order r 0 = some .eq := ho
  clear hr ho
  go_enter Try.func77, Try.ntmps77
  go_wp2
  go_ret
  exact ⟨rfl, rfl⟩

theorem l01Finite_V {c : Nat} {x : Rat} (h : V single c x) (w : World) : Calls Try.prog 78 #[.float .f32 c] w fun e w' => e = .returned (.bool true) ∧ w = w' := by
  obtain ⟨r, hr, ho⟩ := sub_self h
  have r1 : ∀ w, (binOp .sub 25 (.float .f32 c) (.float .f32 c)).run Try.prog w = .ok (.float .f32 r) w := fun w => run_float_arith (P := Try.prog) w .sub 25 .f32 _ _ _ hr
  have ho' : FloatKind.f32.format.order r 0 = some .eq := ho
  clear hr ho
  go_enter Try.func78, Try.ntmps78
  go_wp2
  go_ret
  exact ⟨rfl, rfl⟩

theorem checked_V {c : Nat} {x : Rat} (h : V single c x) (w : World) : Calls Try.prog 57 #[.float .f32 c] w fun e w' => e = .returned (.tuple #[.float .f32 c, .bool true]) ∧ w = w' := by
  go_enter Try.func57, Try.ntmps57
  go_wp2_with (go_at_call 77; refine (IsFinite_V h _).mono ?_; rintro e w' ⟨rfl, rfl⟩)
  go_ret2
  exact ⟨rfl, rfl⟩
theorem sameFloat_V {a : Nat} {x : Rat} (h : V double a x) (w : World) : Calls Try.prog 18 #[.float .f64 a, .float .f64 a] w fun e w' => e = .returned (.bool true) ∧ w = w' := by
  have h1 : FloatKind.f64.format.order a a = some .eq := order_self h
  by_cases h0 : x = 0
  · subst h0
    have h2 : FloatKind.f64.format.order a 0 = some .eq := by
      have := order_val h zero_V64
      rw [if_neg (by grind), if_pos rfl] at this
      exact this
    obtain ⟨r, hr⟩ := inv_zero h
    have r1 : ∀ w, (binOp .quo 29 (.float .f64 4607182418800017408) (.float .f64 a)).run Try.prog w = .ok (.float .f64 r) w := fun w => run_float_arith (P := Try.prog) w .quo 29 .f64 _ _ _ hr
    clear hr h
    cases hB : (FloatKind.f64.format.order r 0 == some .gt)
    all_goals
      go_enter Try.func18, Try.ntmps18
      go_wp2
      go_ret
      exact ⟨rfl, rfl⟩
  · have h2 : (FloatKind.f64.format.order a 0 == some .eq) = false := by
      have := order_val h zero_V64
      have h3 : FloatKind.f64.format.order a 0 = _ := this
      rw [h3]
      by_cases hx : x < 0
      · rw [if_pos hx]; rfl
      · rw [if_neg hx, if_neg h0]; rfl
    clear h h0
    go_enter Try.func18, Try.ntmps18
    go_wp2
    go_ret
    exact ⟨rfl, rfl⟩

end Go.Proofs.Ytlfffkjgepgcfaa.fl
