/-
  CallGain of both packages answers the same. Conditions: those of each theorem.
-/
import Derived.Test.YtlfffkjgepgcfaaFloat
namespace Go.Proofs.Ytlfffkjgepgcfaa.chance
open Go.RowKit
open base mem fl

open Ieee
/-! ### no program in sight -/
def cgA (c : Nat) (p : Int) : Nat := (single.mul c (FloatKind.f32.nearest p)).getD 0
def cgD (c : Nat) : Nat := (single.sub 1065353216 c).getD 0
def cgB (c : Nat) (k : Int) : Nat := (single.mul (cgD c) (FloatKind.f32.nearest k)).getD 0
def cgW (c : Nat) (p k : Int) : Nat := (single.sub (cgA c p) (cgB c k)).getD 0
def cgOk (c : Nat) (p k : Int) : Bool := shB c && (inB p 0 1000000 && inB k 0 1000000)
def cgOut (c : Nat) (p k : Int) : Nat := if cgOk c p k then cgW c p k else 0
theorem p20 : (2 : Rat) ^ (20 : Int) = 1048576 := by decide +kernel
theorem p21 : (2 : Rat) ^ (21 : Int) = 2097152 := by decide +kernel
theorem p0 : (2 : Rat) ^ (0 : Int) = 1 := Rat.zpow_zero _
theorem share_mul {c : Nat} {x : Rat} (hx : V single c x) (x0 : 0 ≤ x) (x1 : x ≤ 1) {p : Int} (h1 : 0 ≤ p) (h2 : p ≤ 1000000) :
    ∃ r z, single.mul c (FloatKind.f32.nearest p) = some r ∧ V single r z ∧ 0 ≤ z ∧ z ≤ 1048576 := by
  have h20 : ((1000000 : Int) : Rat) = 1000000 := rfl
  have a1 : (0 : Rat) ≤ (p : Rat) := Rat.intCast_le_intCast.2 h1
  have a2 : (p : Rat) ≤ 1000000 := by rw [← h20]; exact Rat.intCast_le_intCast.2 h2
  obtain ⟨y, hy, y1, y2, y3, y4, y5, y6, y7⟩ := int_nr (k := .f32) (fits_single (M := 20) (by omega) (by omega)) (n := p) (by rw [p20]; grind) (by rw [p20]; grind)
  rw [p20] at y2
  have y0 := y5 a1
  have m0 : 0 ≤ x * y := Rat.mul_nonneg x0 y0
  have m1 : x * y ≤ 1048576 := by
    have := mul_le_right x1 y0
    grind
  obtain ⟨r, hr, z, hz, z1, z2, z3, z4, z5, z6, z7⟩ := mul_nr (f := single) (M := 20) (fits_single (by omega) (by omega)) hx hy (by rw [p20]; grind) (by rw [p20]; exact m1)
  rw [p20] at z2
  exact ⟨r, z, hr, hz, z5 m0, z2⟩
theorem one_minus {c : Nat} {x : Rat} (hx : V single c x) (x0 : 0 ≤ x) (x1 : x ≤ 1) : ∃ z, single.sub 1065353216 c = some (cgD c) ∧ V single (cgD c) z ∧ 0 ≤ z ∧ z ≤ 1 := by
  obtain ⟨r, hr, z, hz, z1, z2, z3, z4, z5, z6, z7⟩ := sub_nr (f := single) (M := 0) (fits_single (by omega) (by omega)) one_V32 hx (by rw [p0]; grind) (by rw [p0]; grind)
  rw [p0] at z2
  have : cgD c = r := by unfold cgD; rw [hr]; rfl
  rw [this]
  exact ⟨z, hr, hz, z5 (by grind), z2⟩
theorem cg_ok {c : Nat} {p k : Int} (h : shB c = true) (p1 : 0 ≤ p) (p2 : p ≤ 1000000) (k1 : 0 ≤ k) (k2 : k ≤ 1000000) :
    single.mul c (FloatKind.f32.nearest p) = some (cgA c p) ∧ single.sub 1065353216 c = some (cgD c) ∧ single.mul (cgD c) (FloatKind.f32.nearest k) = some (cgB c k) ∧ single.sub (cgA c p) (cgB c k) = some (cgW c p k) ∧ ∃ z, V single (cgW c p k) z := by
  obtain ⟨x, hx, x0, x1⟩ := shB_V h
  obtain ⟨a, za, ha, hva, a0, a1⟩ := share_mul hx x0 x1 p1 p2
  obtain ⟨zd, hd, hvd, d0, d1⟩ := one_minus hx x0 x1
  obtain ⟨b, zb, hb, hvb, b0, b1⟩ := share_mul hvd d0 d1 k1 k2
  have eA : cgA c p = a := by unfold cgA; rw [ha]; rfl
  have eB : cgB c k = b := by unfold cgB; rw [hb]; rfl
  obtain ⟨r, hr, z, hz, _⟩ := sub_nr (f := single) (M := 21) (fits_single (by omega) (by omega)) hva hvb (by rw [p21]; grind) (by rw [p21]; grind)
  have eW : cgW c p k = r := by unfold cgW; rw [eA, eB, hr]; rfl
  rw [eA, eB, eW]
  exact ⟨ha, hd, hb, hr, z, hz⟩
theorem cgOut_V (c : Nat) (p k : Int) : ∃ x, V single (cgOut c p k) x := by
  unfold cgOut
  split
  · next h =>
    unfold cgOk at h
    rw [Bool.and_eq_true, Bool.and_eq_true] at h
    obtain ⟨b1, b2⟩ := inB_yes h.2.1
    obtain ⟨b3, b4⟩ := inB_yes h.2.2
    exact (cg_ok h.1 b1 b2 b3 b4).2.2.2.2
  · exact ⟨0, zero_V⟩

set_option maxHeartbeats 1000000 in
theorem spec_CallGain (c : Nat) (p k : Int) (w : World) : Calls Try.prog 16 #[.float .f32 c, .int .i64 p, .int .i64 k] w fun e w' => e = .returned (.tuple #[.float .f32 (cgOut c p k), .bool (cgOk c p k)]) ∧ w = w' := by
  cases h1 : shB c
  · have hK : cgOk c p k = false := by simp [cgOk, h1]
    have hO : cgOut c p k = 0 := by simp [cgOut, hK]
    rw [hO, hK]
    clear hO hK
    go_enter Try.func16, Try.ntmps16
    go_wp2_with (first | (go_at_call 55; refine (l02Share_any _ _).mono ?_; rintro e w' ⟨rfl, rfl⟩) | (go_at_call 53; refine (l00In_any _ _ _ _).mono ?_; rintro e w' ⟨rfl, rfl⟩))
    go_ret2
    exact ⟨rfl, rfl⟩
  cases h2 : inB p 0 1000000
  · have hK : cgOk c p k = false := by simp [cgOk, h2]
    have hO : cgOut c p k = 0 := by simp [cgOut, hK]
    rw [hO, hK]
    clear hO hK
    go_enter Try.func16, Try.ntmps16
    go_wp2_with (first | (go_at_call 55; refine (l02Share_any _ _).mono ?_; rintro e w' ⟨rfl, rfl⟩) | (go_at_call 53; refine (l00In_any _ _ _ _).mono ?_; rintro e w' ⟨rfl, rfl⟩))
    go_ret2
    exact ⟨rfl, rfl⟩
  cases h3 : inB k 0 1000000
  · have hK : cgOk c p k = false := by simp [cgOk, h3]
    have hO : cgOut c p k = 0 := by simp [cgOut, hK]
    rw [hO, hK]
    clear hO hK
    go_enter Try.func16, Try.ntmps16
    go_wp2_with (first | (go_at_call 55; refine (l02Share_any _ _).mono ?_; rintro e w' ⟨rfl, rfl⟩) | (go_at_call 53; refine (l00In_any _ _ _ _).mono ?_; rintro e w' ⟨rfl, rfl⟩))
    go_ret2
    exact ⟨rfl, rfl⟩
  have hK : cgOk c p k = true := by simp [cgOk, h1, h2, h3]
  have hO : cgOut c p k = cgW c p k := by simp [cgOut, hK]
  rw [hO, hK]
  obtain ⟨b1, b2⟩ := inB_yes h2
  obtain ⟨b3, b4⟩ := inB_yes h3
  obtain ⟨e1, e2, e3, e4, z, hz⟩ := cg_ok h1 b1 b2 b3 b4
  clear hO hK
  obtain ⟨A, hA⟩ := ex_eq (cgA c p)
  obtain ⟨B, hB⟩ := ex_eq (cgB c k)
  obtain ⟨D, hD⟩ := ex_eq (cgD c)
  obtain ⟨W, hW⟩ := ex_eq (cgW c p k)
  rw [hA] at e1 e4
  rw [hB] at e3 e4
  rw [hD] at e2 e3
  rw [hW] at e4 hz ⊢
  have r1 : ∀ w, (binOp .mul 25 (.float .f32 c) (.float .f32 (floatOfInt .f32 p))).run Try.prog w = .ok (.float .f32 A) w := fun w => run_float_arith (P := Try.prog) w .mul 25 .f32 _ _ _ e1
  have r2 : ∀ w, (binOp .sub 25 (.float .f32 1065353216) (.float .f32 c)).run Try.prog w = .ok (.float .f32 D) w := fun w => run_float_arith (P := Try.prog) w .sub 25 .f32 _ _ _ e2
  have r3 : ∀ w, (binOp .mul 25 (.float .f32 D) (.float .f32 (floatOfInt .f32 k))).run Try.prog w = .ok (.float .f32 B) w := fun w => run_float_arith (P := Try.prog) w .mul 25 .f32 _ _ _ e3
  have r4 : ∀ w, (binOp .sub 25 (.float .f32 A) (.float .f32 B)).run Try.prog w = .ok (.float .f32 W) w := fun w => run_float_arith (P := Try.prog) w .sub 25 .f32 _ _ _ e4
  clear e1 e2 e3 e4 hA hB hD hW
  go_enter Try.func16, Try.ntmps16
  go_wp2_with (first | (go_at_call 55; refine (l02Share_any _ _).mono ?_; rintro e w' ⟨rfl, rfl⟩) | (go_at_call 53; refine (l00In_any _ _ _ _).mono ?_; rintro e w' ⟨rfl, rfl⟩))
  go_ret2
  exact ⟨rfl, rfl⟩

set_option maxHeartbeats 1000000 in
theorem impl_CallGain (c : Nat) (p k : Int) (w : World) : Calls Try.prog 17 #[.float .f32 c, .int .i64 p, .int .i64 k] w fun e w' => e = .returned (.tuple #[.float .f32 (cgOut c p k), .bool (cgOk c p k)]) ∧ w = w' := by
  cases h1 : shB c
  · have hK : cgOk c p k = false := by simp [cgOk, h1]
    have hO : cgOut c p k = 0 := by simp [cgOut, hK]
    rw [hO, hK]
    clear hO hK
    go_enter Try.func17, Try.ntmps17
    go_wp2_with (first | (go_at_call 56; refine (isChance_any _ _).mono ?_; rintro e w' ⟨rfl, rfl⟩) | (go_at_call 54; refine (within_any _ _ _ _).mono ?_; rintro e w' ⟨rfl, rfl⟩))
    go_ret2
    exact ⟨rfl, rfl⟩
  cases h2 : inB p 0 1000000
  · have hK : cgOk c p k = false := by simp [cgOk, h2]
    have hO : cgOut c p k = 0 := by simp [cgOut, hK]
    rw [hO, hK]
    clear hO hK
    go_enter Try.func17, Try.ntmps17
    go_wp2_with (first | (go_at_call 56; refine (isChance_any _ _).mono ?_; rintro e w' ⟨rfl, rfl⟩) | (go_at_call 54; refine (within_any _ _ _ _).mono ?_; rintro e w' ⟨rfl, rfl⟩))
    go_ret2
    exact ⟨rfl, rfl⟩
  cases h3 : inB k 0 1000000
  · have hK : cgOk c p k = false := by simp [cgOk, h3]
    have hO : cgOut c p k = 0 := by simp [cgOut, hK]
    rw [hO, hK]
    clear hO hK
    go_enter Try.func17, Try.ntmps17
    go_wp2_with (first | (go_at_call 56; refine (isChance_any _ _).mono ?_; rintro e w' ⟨rfl, rfl⟩) | (go_at_call 54; refine (within_any _ _ _ _).mono ?_; rintro e w' ⟨rfl, rfl⟩))
    go_ret2
    exact ⟨rfl, rfl⟩
  have hK : cgOk c p k = true := by simp [cgOk, h1, h2, h3]
  have hO : cgOut c p k = cgW c p k := by simp [cgOut, hK]
  rw [hO, hK]
  obtain ⟨b1, b2⟩ := inB_yes h2
  obtain ⟨b3, b4⟩ := inB_yes h3
  obtain ⟨e1, e2, e3, e4, z, hz⟩ := cg_ok h1 b1 b2 b3 b4
  clear hO hK
  obtain ⟨A, hA⟩ := ex_eq (cgA c p)
  obtain ⟨B, hB⟩ := ex_eq (cgB c k)
  obtain ⟨D, hD⟩ := ex_eq (cgD c)
  obtain ⟨W, hW⟩ := ex_eq (cgW c p k)
  rw [hA] at e1 e4
  rw [hB] at e3 e4
  rw [hD] at e2 e3
  rw [hW] at e4 hz ⊢
  have r1 : ∀ w, (binOp .mul 25 (.float .f32 c) (.float .f32 (floatOfInt .f32 p))).run Try.prog w = .ok (.float .f32 A) w := fun w => run_float_arith (P := Try.prog) w .mul 25 .f32 _ _ _ e1
  have r2 : ∀ w, (binOp .sub 25 (.float .f32 1065353216) (.float .f32 c)).run Try.prog w = .ok (.float .f32 D) w := fun w => run_float_arith (P := Try.prog) w .sub 25 .f32 _ _ _ e2
  have r3 : ∀ w, (binOp .mul 25 (.float .f32 D) (.float .f32 (floatOfInt .f32 k))).run Try.prog w = .ok (.float .f32 B) w := fun w => run_float_arith (P := Try.prog) w .mul 25 .f32 _ _ _ e3
  have r4 : ∀ w, (binOp .sub 25 (.float .f32 A) (.float .f32 B)).run Try.prog w = .ok (.float .f32 W) w := fun w => run_float_arith (P := Try.prog) w .sub 25 .f32 _ _ _ e4
  clear e1 e2 e3 e4 hA hB hD hW
  go_enter Try.func17, Try.ntmps17
  go_wp2_with (first | (go_at_call 56; refine (isChance_any _ _).mono ?_; rintro e w' ⟨rfl, rfl⟩) | (go_at_call 54; refine (within_any _ _ _ _).mono ?_; rintro e w' ⟨rfl, rfl⟩) | (go_at_call 57; refine (checked_V hz _).mono ?_; rintro e w' ⟨rfl, rfl⟩))
  go_ret2
  exact ⟨rfl, rfl⟩

end Go.Proofs.Ytlfffkjgepgcfaa.chance
