/-
  The logarithm of both packages answers the same. Conditions: the number is above 0 and neither too small nor too great.
-/
import Derived.Test.YtlfffkjgepgcfaaLogP
namespace Go.Proofs.Ytlfffkjgepgcfaa.fl
open Go.RowKit
open base mem

open Ieee
/-- the whole number that a word stands for, for measures -/
def eOf (b : Nat) : Int := match double.read b with
  | .number s m e => let z : Int := if 0 ≤ e then (m <<< e.toNat : Nat) else (m >>> (-e).toNat : Nat); if s then -z else z
  | _ => 0
def mD : Value → Nat
  | .float _ b => (eOf b + 300).toNat
  | _ => 0
def mU : Value → Nat
  | .float _ b => (300 - eOf b).toNat
  | _ => 0
theorem eOf_fI0 : ∀ n : Fin 402, eOf (fI ((n.val : Int) - 201)) = (n.val : Int) - 201 ∧ double.sub (fI ((n.val : Int) - 201)) 4607182418800017408 = some (fI ((n.val : Int) - 201 - 1)) ∧ double.add (fI ((n.val : Int) - 201)) 4607182418800017408 = some (fI ((n.val : Int) - 201 + 1)) := by decide +kernel
theorem eOf_fI {n : Int} (h : -201 ≤ n) (h2 : n ≤ 200) : eOf (fI n) = n ∧ double.sub (fI n) 4607182418800017408 = some (fI (n - 1)) ∧ double.add (fI n) 4607182418800017408 = some (fI (n + 1)) := by
  have := eOf_fI0 ⟨(n + 201).toNat, by omega⟩
  dsimp only at this
  rw [show (((n + 201).toNat : Nat) : Int) - 201 = n by omega] at this
  exact this
theorem fI_zero : fI 0 = 0 := by decide +kernel
theorem fI_k0 : ∀ j : Fin 14, (double.order (fI (2 * (j.val : Int) - 1)) 4607182418800017408 == some .gt || double.order (fI (2 * (j.val : Int) - 1)) 4607182418800017408 == some .eq) = decide (0 < j.val) ∧ double.sub (fI (2 * (j.val : Int) + 1)) 4611686018427387904 = some (fI (2 * (j.val : Int) - 1)) := by decide +kernel
theorem fI_25 : fI 25 = 4627730092099895296 := by decide +kernel
theorem fI_k {j : Nat} (h : j < 14) : (double.order (fI (2 * (j : Int) - 1)) 4607182418800017408 == some .gt || double.order (fI (2 * (j : Int) - 1)) 4607182418800017408 == some .eq) = decide (0 < j) ∧ double.sub (fI (2 * (j : Int) + 1)) 4611686018427387904 = some (fI (2 * (j : Int) - 1)) := fI_k0 ⟨j, h⟩
theorem ge15 {y : Nat} {v : Rat} (h : V double y v) : (double.order y 4609434218613702656 == some .gt || double.order y 4609434218613702656 == some .eq) = decide (3 / 2 ≤ v) := by
  rw [order_val h c15_V]
  by_cases h1 : v < 3 / 2
  · rw [if_pos h1, decide_eq_false (by grind)]; rfl
  · rw [if_neg h1, decide_eq_true (by grind)]
    by_cases h2 : v = 3 / 2
    · rw [if_pos h2]; rfl
    · rw [if_neg h2]; rfl
theorem lt75b {y : Nat} {v : Rat} (h : V double y v) : (double.order y 4604930618986332160 == some .lt) = decide (v < 3 / 4) := by
  rw [order_val h c75_V]
  by_cases h1 : v < 3 / 4
  · rw [if_pos h1, decide_eq_true h1]; rfl
  · rw [if_neg h1, decide_eq_false h1]
    by_cases h2 : v = 3 / 4
    · rw [if_pos h2]; rfl
    · rw [if_neg h2]; rfl
theorem pow_zero_Q : ((2 ^ 0 : Nat) : Rat) = 1 := rfl
/-- where one halves -/
def SU (R : Nat × Int) (k y : Nat) (e : Int) : Prop := up k y e = R ∧ ∃ v, V double y v ∧ 0 < v ∧ 3 / 4 ≤ v * ((2 ^ 200 : Nat) : Rat) ∧ v < 3 / 2 * ((2 ^ k : Nat) : Rat) ∧ v ≤ 2 ^ (300 : Int)
theorem SU.go {R : Nat × Int} {k y : Nat} {e : Int} (h : SU R k y e) (hg : (double.order y 4609434218613702656 == some .gt || double.order y 4609434218613702656 == some .eq) = true) :
    ∃ j, k = j + 1 ∧ double.div y 4611686018427387904 = some (dv y 4611686018427387904) ∧ SU R j (dv y 4611686018427387904) (e + 1) := by
  obtain ⟨h1, v, h2, h3, h4, h5, h6⟩ := h
  rw [ge15 h2] at hg
  have hv := of_decide_eq_true hg
  cases k with
  | zero => rw [pow_zero_Q] at h5; grind
  | succ j =>
    obtain ⟨a1, a2, a3, a4, a5⟩ := half_step h2 hv h5 h6
    refine ⟨j, rfl, a1, by rw [← h1, up_go h2 hv], _, a2, by grind, ?_, a4, a5⟩
    have := Rat.mul_le_mul_of_nonneg_left (one_le 200) (show 0 ≤ v / 2 by grind)
    grind
theorem SU.stop {R : Nat × Int} {k y : Nat} {e : Int} (h : SU R k y e) (hg : (double.order y 4609434218613702656 == some .gt || double.order y 4609434218613702656 == some .eq) = false) :
    (y, e) = R ∧ ∃ v, V double y v ∧ 0 < v ∧ 3 / 4 ≤ v * ((2 ^ 200 : Nat) : Rat) ∧ v < 3 / 2 := by
  obtain ⟨h1, v, h2, h3, h4, h5, h6⟩ := h
  rw [ge15 h2] at hg
  have hv := of_decide_eq_false hg
  exact ⟨by rw [← h1, up_idle h2 (by grind)], v, h2, h3, h4, by grind⟩
/-- where one doubles -/
def SD (R : Nat × Int) (k y : Nat) (e : Int) : Prop := dn k y e = R ∧ ∃ v, V double y v ∧ 0 < v ∧ 3 / 4 ≤ v * ((2 ^ k : Nat) : Rat) ∧ v < 3 / 2 * ((2 ^ 200 : Nat) : Rat) ∧ v ≤ 2 ^ (300 : Int)
theorem SD.go {R : Nat × Int} {k y : Nat} {e : Int} (h : SD R k y e) (hg : (double.order y 4604930618986332160 == some .lt) = true) :
    ∃ j, k = j + 1 ∧ double.mul y 4611686018427387904 = some (ml y 4611686018427387904) ∧ SD R j (ml y 4611686018427387904) (e - 1) := by
  obtain ⟨h1, v, h2, h3, h4, h5, h6⟩ := h
  rw [lt75b h2] at hg
  have hv := of_decide_eq_true hg
  cases k with
  | zero => rw [pow_zero_Q] at h4; grind
  | succ j =>
    obtain ⟨a1, a2, a3, a4, a5⟩ := dbl_step h2 h3 hv h4
    have hp := p2_300
    have h1' := one_le 200
    refine ⟨j, rfl, a1, by rw [← h1, dn_go h2 hv], _, a2, a3, a5, ?_, by grind⟩
    have := Rat.mul_le_mul_of_nonneg_left h1' (show (0 : Rat) ≤ 3 / 2 by grind)
    grind
theorem SD.stop {R : Nat × Int} {k y : Nat} {e : Int} (h : SD R k y e) (hg : (double.order y 4604930618986332160 == some .lt) = false) :
    (y, e) = R ∧ ∃ v, V double y v ∧ 3 / 4 ≤ v ∧ v < 3 / 2 * ((2 ^ 200 : Nat) : Rat) ∧ v ≤ 2 ^ (300 : Int) := by
  obtain ⟨h1, v, h2, h3, h4, h5, h6⟩ := h
  rw [lt75b h2] at hg
  have hv := of_decide_eq_false hg
  exact ⟨by rw [← h1, dn_idle h2 (by grind)], v, h2, by grind, h5, h6⟩
theorem SD.start {y : Nat} {e : Int} {v : Rat} (h : V double y v) (h0 : 0 < v) (h1 : 3 / 4 ≤ v * ((2 ^ 200 : Nat) : Rat)) (h2 : v < 3 / 2 * ((2 ^ 200 : Nat) : Rat)) (h3 : v ≤ 2 ^ (300 : Int)) : SD (dn 200 y e) 200 y e := ⟨rfl, v, h, h0, h1, h2, h3⟩
theorem SU.start {y : Nat} {e : Int} {v : Rat} (h : V double y v) (h0 : 0 < v) (h1 : 3 / 4 ≤ v * ((2 ^ 200 : Nat) : Rat)) (h2 : v < 3 / 2 * ((2 ^ 200 : Nat) : Rat)) (h3 : v ≤ 2 ^ (300 : Int)) : SU (up 200 y e) 200 y e := ⟨rfl, v, h, h0, h1, h2, h3⟩
theorem scale_low {v : Rat} (h : 3 / 4 ≤ v) : 3 / 4 ≤ v * ((2 ^ 200 : Nat) : Rat) := by
  have := Rat.mul_le_mul_of_nonneg_left (one_le 200) (show (0 : Rat) ≤ v by grind)
  grind
theorem scale_high {v : Rat} (h : v < 3 / 2) : v < 3 / 2 * ((2 ^ 200 : Nat) : Rat) := by
  have := Rat.mul_le_mul_of_nonneg_left (one_le 200) (show (0 : Rat) ≤ 3 / 2 by grind)
  grind
/-- the row of powers, under way -/
def SQ (u Q j q : Nat) : Prop := j ≤ 13 ∧ qs u j q = Q ∧ (∃ z, V double u z ∧ 0 ≤ z ∧ z ≤ 1) ∧ ∃ z, V double q z ∧ -((2 ^ (13 - j) : Nat) : Rat) ≤ z ∧ z ≤ ((2 ^ (13 - j) : Nat) : Rat)
theorem SQ.start {u : Nat} (hu : ∃ z, V double u z ∧ 0 ≤ z ∧ z ≤ 1) : SQ u (qs u 13 0) 13 0 := ⟨Nat.le_refl _, rfl, hu, 0, zero_V64, by decide +kernel, by decide +kernel⟩
theorem SQ.stop {u Q q : Nat} (h : SQ u Q 0 q) : q = Q := by
  have := h.2.1
  rwa [qs_zero] at this
theorem SQ.go {u Q j q : Nat} (h : SQ u Q (j + 1) q) : double.div 4607182418800017408 (fI (2 * (j : Int) + 1)) = some (dk j) ∧ double.mul u q = some (ml u q) ∧ double.add (dk j) (ml u q) = some (ad (dk j) (ml u q)) ∧ SQ u Q j (ad (dk j) (ml u q)) := by
  obtain ⟨h1, h2, ⟨zu, hu, hu0, hu1⟩, zq, hq, hq0, hq1⟩ := h
  obtain ⟨a1, a2, z, a3, a4, a5⟩ := q_step (n := 13 - (j + 1)) (show j < 13 by omega) (by omega) hu hu0 hu1 hq hq0 hq1
  rw [show 13 - (j + 1) + 1 = 13 - j by omega] at a4 a5
  rw [qs_succ] at h2
  exact ⟨(dk_V (show j < 13 by omega)).1, a1, a2, by omega, h2, ⟨zu, hu, hu0, hu1⟩, z, a3, a4, a5⟩

set_option maxHeartbeats 2000000 in
theorem impl_logarithm (y0 : Nat) {v0 : Rat} (h : V double y0 v0) (hm : Mid v0) (w : World) : Calls Try.prog 83 #[.float .f64 y0] w fun e w' => e = .returned (.float .f64 (logD y0)) ∧ w = w' := by
  have hno := (norm_ok h hm).2
  have hud := up_dn h hm
  have hr : logD y0 = lW (norm y0).1 (norm y0).2 := rfl
  obtain ⟨R, hR⟩ := ex_eq (logD y0)
  rw [hR] at hr ⊢
  have HS := hide (SD.start (e := 0) h hm.pos hm.low hm.high hm.top)
  obtain ⟨R1, hR1⟩ := ex_eq (dn 200 y0 0)
  rw [hR1] at hud HS
  have hp0 : Parts (norm y0).1 (norm y0).2 := by
    obtain ⟨⟨v', a, b, c⟩, _, _⟩ := norm_ok h hm
    exact parts_ok a b c hno.1 hno.2
  rw [← hud] at hp0 hr hno
  have HP0 := hide hp0
  have HR := hide hr
  have HNO := hide hno
  clear hR hR1 h hm hno hud hp0 hr
  go_enter Try.func83, Try.ntmps83
  go_wp2
  go_loop [0, 3] (fun a b => ∃ (k y : Nat) (e : Int), a = .float .f64 y ∧ b = .float .f64 (fI e) ∧ (k : Int) ≤ 200 + e ∧ e ≤ 0 ∧ Hid (SD R1 k y e)) (fun _ b => mD b)
  case atStart => exact ⟨200, y0, 0, rfl, by rw [fI_zero], by omega, by omega, HS⟩
  case round =>
    obtain ⟨k, y, e, rfl, rfl, hk, he, hS⟩ := hrel
    obtain ⟨e1, e2, _⟩ := eOf_fI (show -201 ≤ e by omega) (show e ≤ 200 by omega)
    have hk0 : (0 : Int) ≤ 200 + e := by omega
    cases hg : (double.order y 4604930618986332160 == some .lt)
    · obtain ⟨hq, v, hv, hv1, hv2, hv3⟩ := hS.out.stop hg
      have hg' : (FloatKind.f64.format.order y 4604930618986332160 == some .lt) = false := hg
      rw [← hq] at HP0 HR HNO
      have HS2 := hide (SU.start (e := e) hv (by grind) (scale_low hv1) hv2 hv3)
      dsimp only at HP0 HR HNO
      obtain ⟨R2, hR2⟩ := ex_eq (up 200 y e)
      rw [hR2] at HP0 HR HNO HS2
      clear hg hq hv hv1 hv2 hv3 hS HS hR2 e1 e2
      go_wp2
      go_loop [0, 3] (fun a b => ∃ (k y : Nat) (i : Int), a = .float .f64 y ∧ b = .float .f64 (fI i) ∧ i + k ≤ e + 200 ∧ e ≤ i ∧ Hid (SU R2 k y i)) (fun _ b => mU b)
      case atStart => exact ⟨200, y, e, rfl, rfl, by omega, by omega, HS2⟩
      case round =>
        obtain ⟨k2, y9, e9, rfl, rfl, hk2, he2, hS⟩ := hrel
        obtain ⟨e1, _, e2⟩ := eOf_fI (show -201 ≤ e9 by omega) (show e9 ≤ 200 by omega)
        cases hg : (double.order y9 4609434218613702656 == some .gt || double.order y9 4609434218613702656 == some .eq)
        · obtain ⟨hq, _⟩ := hS.out.stop hg
          have hg' : (FloatKind.f64.format.order y9 4609434218613702656 == some .gt || FloatKind.f64.format.order y9 4609434218613702656 == some .eq) = false := hg
          rw [← hq] at HP0 HR
          dsimp only at HP0 HR
          have HP := HP0
          clear hg hq hS HS2 HNO
          have hp1 := HP.out.s1
          have hp2 := HP.out.s2
          have hp3 := HP.out.s3
          have hp4 := HP.out.s4
          have ht1 := HP.out.t1
          have ht2 := HP.out.t2
          have ht3 := HP.out.t3
          have ht4 := HP.out.t4
          have hu := HP.out.u
          have HQ : qs (uW y9) 13 0 = qW y9 := rfl
          obtain ⟨L, hL⟩ := ex_eq (lW y9 e9)
          rw [hL] at ht4 HR
          obtain ⟨b3, hb3⟩ := ex_eq (ml (fI e9) 4604418534313441775)
          rw [hb3] at ht3 ht4
          obtain ⟨b2, hb2⟩ := ex_eq (ml 4611686018427387904 (ml (sW y9) (qW y9)))
          rw [hb2] at ht2 ht4
          obtain ⟨b1, hb1⟩ := ex_eq (ml (sW y9) (qW y9))
          rw [hb1] at ht1 ht2
          obtain ⟨q9, hq9⟩ := ex_eq (qW y9)
          rw [hq9] at ht1 HQ
          obtain ⟨a4, ha4⟩ := ex_eq (uW y9)
          rw [ha4] at hp4 hu HQ
          obtain ⟨a3, ha3⟩ := ex_eq (sW y9)
          rw [ha3] at hp3 hp4 ht1
          obtain ⟨a2, ha2⟩ := ex_eq (ad y9 4607182418800017408)
          rw [ha2] at hp2 hp3
          obtain ⟨a1, ha1⟩ := ex_eq (sb y9 4607182418800017408)
          rw [ha1] at hp1 hp3
          have hs3 := SQ.start hu
          rw [HQ] at hs3
          have HS3 := hide hs3
          clear hs3
          obtain ⟨E9, hE9⟩ := ex_eq (fI e9)
          rw [hE9] at ht3 ⊢
          clear e1 e2
          have p1 : ∀ w, (binOp .sub 29 (.float .f64 y9) (.float .f64 4607182418800017408)).run Try.prog w = .ok (.float .f64 a1) w := fun w => run_float_arith (P := Try.prog) w .sub 29 .f64 _ _ _ hp1
          have p2 : ∀ w, (binOp .add 29 (.float .f64 y9) (.float .f64 4607182418800017408)).run Try.prog w = .ok (.float .f64 a2) w := fun w => run_float_arith (P := Try.prog) w .add 29 .f64 _ _ _ hp2
          have p3 : ∀ w, (binOp .quo 29 (.float .f64 a1) (.float .f64 a2)).run Try.prog w = .ok (.float .f64 a3) w := fun w => run_float_arith (P := Try.prog) w .quo 29 .f64 _ _ _ hp3
          have p4 : ∀ w, (binOp .mul 29 (.float .f64 a3) (.float .f64 a3)).run Try.prog w = .ok (.float .f64 a4) w := fun w => run_float_arith (P := Try.prog) w .mul 29 .f64 _ _ _ hp4
          have t1 : ∀ w, (binOp .mul 29 (.float .f64 a3) (.float .f64 q9)).run Try.prog w = .ok (.float .f64 b1) w := fun w => run_float_arith (P := Try.prog) w .mul 29 .f64 _ _ _ ht1
          have t2 : ∀ w, (binOp .mul 29 (.float .f64 4611686018427387904) (.float .f64 b1)).run Try.prog w = .ok (.float .f64 b2) w := fun w => run_float_arith (P := Try.prog) w .mul 29 .f64 _ _ _ ht2
          have t3 : ∀ w, (binOp .mul 29 (.float .f64 E9) (.float .f64 4604418534313441775)).run Try.prog w = .ok (.float .f64 b3) w := fun w => run_float_arith (P := Try.prog) w .mul 29 .f64 _ _ _ ht3
          have t4 : ∀ w, (binOp .add 29 (.float .f64 b2) (.float .f64 b3)).run Try.prog w = .ok (.float .f64 L) w := fun w => run_float_arith (P := Try.prog) w .add 29 .f64 _ _ _ ht4
          clear hp1 hp2 hp3 hp4 ht1 ht2 ht3 ht4 hu HQ hL hb3 hb2 hb1 hq9 ha4 ha3 ha2 ha1 hE9 HP HP0
          go_wp2
          go_loop [6, 7] (fun a b => ∃ j q : Nat, a = .float .f64 q ∧ b = .float .f64 (fI (2 * (j : Int) - 1)) ∧ Hid (SQ a4 q9 j q)) (fun _ b => mD b)
          case atStart => exact ⟨13, 0, rfl, by rw [show (2 * ((13 : Nat) : Int) - 1) = 25 from rfl, fI_25], HS3⟩
          case round =>
            obtain ⟨j, q, rfl, rfl, hS⟩ := hrel
            have hj := hS.out.1
            have hge2 := (fI_k (show j < 14 by omega)).1
            cases j with
            | zero =>
              obtain rfl := hS.out.stop
              have hge3 : (FloatKind.f64.format.order (fI (2 * ((0 : Nat) : Int) - 1)) 4607182418800017408 == some .gt || FloatKind.f64.format.order (fI (2 * ((0 : Nat) : Int) - 1)) 4607182418800017408 == some .eq) = false := hge2
              obtain ⟨K, hK⟩ := ex_eq (fI (2 * ((0 : Nat) : Int) - 1))
              rw [hK] at hge3 ⊢
              clear hge2 hK hS HS3
              go_wp2
              go_ret
              exact ⟨by rw [HR.out]; rfl, rfl⟩
            | succ j =>
              have ek : 2 * ((j + 1 : Nat) : Int) - 1 = 2 * (j : Int) + 1 := by omega
              rw [ek] at hge2 ⊢
              obtain ⟨d1, d2, d3, hS2⟩ := hS.out.go
              have hk1 := (fI_k (show j < 14 by omega)).2
              have m1 := (eOf_fI (n := 2 * (j : Int) + 1) (by omega) (by omega)).1
              have m2 := (eOf_fI (n := 2 * (j : Int) - 1) (by omega) (by omega)).1
              have hge3 : (FloatKind.f64.format.order (fI (2 * (j : Int) + 1)) 4607182418800017408 == some .gt || FloatKind.f64.format.order (fI (2 * (j : Int) + 1)) 4607182418800017408 == some .eq) = true := hge2
              obtain ⟨K, hK⟩ := ex_eq (fI (2 * (j : Int) + 1))
              rw [hK] at hge3 hk1 d1 m1 ⊢
              obtain ⟨K2, hK2⟩ := ex_eq (fI (2 * (j : Int) - 1))
              rw [hK2] at hk1 m2
              obtain ⟨q2, hq2⟩ := ex_eq (ad (dk j) (ml a4 q))
              rw [hq2] at d3 hS2
              obtain ⟨D, hD⟩ := ex_eq (dk j)
              rw [hD] at d1 d3
              obtain ⟨G, hG⟩ := ex_eq (ml a4 q)
              rw [hG] at d2 d3
              have HK2 := hide hK2
              have HS4 := hide hS2
              have c1 : ∀ w, (binOp .quo 29 (.float .f64 4607182418800017408) (.float .f64 K)).run Try.prog w = .ok (.float .f64 D) w := fun w => run_float_arith (P := Try.prog) w .quo 29 .f64 _ _ _ d1
              have c2 : ∀ w, (binOp .mul 29 (.float .f64 a4) (.float .f64 q)).run Try.prog w = .ok (.float .f64 G) w := fun w => run_float_arith (P := Try.prog) w .mul 29 .f64 _ _ _ d2
              have c3 : ∀ w, (binOp .add 29 (.float .f64 D) (.float .f64 G)).run Try.prog w = .ok (.float .f64 q2) w := fun w => run_float_arith (P := Try.prog) w .add 29 .f64 _ _ _ d3
              have c4 : ∀ w, (binOp .sub 29 (.float .f64 K) (.float .f64 4611686018427387904)).run Try.prog w = .ok (.float .f64 K2) w := fun w => run_float_arith (P := Try.prog) w .sub 29 .f64 _ _ _ hk1
              clear hge2 hK hS hK2 hq2 hD hG d1 d2 d3 hk1 hS2 ek
              go_wp2
              go_round
              case rel => exact ⟨j, q2, rfl, by rw [HK2.out], HS4⟩
              case measure => simp only [mD]; rw [m1, m2]; omega
        · obtain ⟨j, rfl, hd, hS2⟩ := hS.out.go hg
          have hg' : (FloatKind.f64.format.order y9 4609434218613702656 == some .gt || FloatKind.f64.format.order y9 4609434218613702656 == some .eq) = true := hg
          obtain ⟨y2, hy2⟩ := ex_eq (dv y9 4611686018427387904)
          rw [hy2] at hd hS2
          obtain ⟨e4, _, _⟩ := eOf_fI (show -201 ≤ e9 + 1 by omega) (show e9 + 1 ≤ 200 by omega)
          have HS2' := hide hS2
          clear hS2
          obtain ⟨E2, hE2⟩ := ex_eq (fI (e9 + 1))
          rw [hE2] at e2 e4
          have r1 : ∀ w, (binOp .quo 29 (.float .f64 y9) (.float .f64 4611686018427387904)).run Try.prog w = .ok (.float .f64 y2) w := fun w => run_float_arith (P := Try.prog) w .quo 29 .f64 _ _ _ hd
          have r2 : ∀ w, (binOp .add 29 (.float .f64 (fI e9)) (.float .f64 4607182418800017408)).run Try.prog w = .ok (.float .f64 E2) w := fun w => run_float_arith (P := Try.prog) w .add 29 .f64 _ _ _ e2
          have HE2 := hide hE2
          clear hg hd hy2 e2 hE2 hS
          go_wp2
          go_round
          case rel => exact ⟨j, y2, e9 + 1, rfl, by rw [HE2.out], by omega, by omega, HS2'⟩
          case measure => simp only [mU]; rw [e1, e4]; omega
    · obtain ⟨j, rfl, hd, hS2⟩ := hS.out.go hg
      have hg' : (FloatKind.f64.format.order y 4604930618986332160 == some .lt) = true := hg
      obtain ⟨y2, hy2⟩ := ex_eq (ml y 4611686018427387904)
      rw [hy2] at hd hS2
      obtain ⟨e4, _, _⟩ := eOf_fI (show -201 ≤ e - 1 by omega) (show e - 1 ≤ 200 by omega)
      have HS2' := hide hS2
      clear hS2
      obtain ⟨E2, hE2⟩ := ex_eq (fI (e - 1))
      rw [hE2] at e2 e4
      have r1 : ∀ w, (binOp .mul 29 (.float .f64 y) (.float .f64 4611686018427387904)).run Try.prog w = .ok (.float .f64 y2) w := fun w => run_float_arith (P := Try.prog) w .mul 29 .f64 _ _ _ hd
      have r2 : ∀ w, (binOp .sub 29 (.float .f64 (fI e)) (.float .f64 4607182418800017408)).run Try.prog w = .ok (.float .f64 E2) w := fun w => run_float_arith (P := Try.prog) w .sub 29 .f64 _ _ _ e2
      have HE2 := hide hE2
      clear hg hd hy2 e2 hE2 hS
      go_wp2
      go_round
      case rel => exact ⟨j, y2, e - 1, rfl, by rw [HE2.out], by omega, by omega, HS2'⟩
      case measure => simp only [mD]; rw [e1, e4]; omega


theorem max_V : V double 9218868437227405311 ((((2 ^ 53 - 1 : Nat)) : Rat) * 2 ^ (971 : Int)) := ⟨false, 9007199254740991, 971, by decide, rfl⟩
theorem below_max {y : Nat} {v : Rat} (h : V double y v) (h1 : v ≤ 2 ^ (300 : Int)) : (double.order y 9218868437227405311 == some .gt) = false := by
  have hp := p2_mono (show (300 : Int) ≤ 971 by omega)
  have h0 := p2_pos 971
  have h2 := Rat.mul_le_mul_of_nonneg_right (show (2 : Rat) ≤ ((2 ^ 53 - 1 : Nat) : Rat) by exact nat_le.2 (by decide)) (Rat.le_of_lt h0)
  rw [order_val h max_V, if_pos (by grind)]
  rfl
theorem IsInf_V {y : Nat} {v : Rat} (h : V double y v) (h1 : v ≤ 2 ^ (300 : Int)) (w : World) : Calls Try.prog 95 #[.float .f64 y, .int .i64 1] w fun e w' => e = .returned (.bool false) ∧ w = w' := by
  have hm : (FloatKind.f64.format.order y 9218868437227405311 == some .gt) = false := below_max h h1
  clear h h1
  go_enter Try.func95, Try.ntmps95
  go_wp2
  go_ret
  exact ⟨rfl, rfl⟩
theorem num_tests {y : Nat} {v : Rat} (h : V double y v) (h0 : 0 < v) : double.order y y = some .eq ∧ (double.order y 0 == some .lt) = false ∧ (double.order y 0 == some .eq) = false := by
  refine ⟨order_self h, ?_, ?_⟩
  · rw [order_val h zero_V64, if_neg (by grind), if_neg (by grind)]; rfl
  · rw [order_val h zero_V64, if_neg (by grind), if_neg (by grind)]; rfl

set_option maxHeartbeats 2000000 in
theorem spec_l01LogWide (y0 : Nat) {v0 : Rat} (h : V double y0 v0) (hm : Mid v0) (w : World) : Calls Try.prog 80 #[.float .f64 y0] w fun e w' => e = .returned (.float .f64 (logD y0)) ∧ w = w' := by
  have HI := hide (fun w => IsInf_V h hm.top w)
  obtain ⟨n1, n2, n3⟩ := num_tests h hm.pos
  have m1 : FloatKind.f64.format.order y0 y0 = some .eq := n1
  have m2 : (FloatKind.f64.format.order y0 0 == some .lt) = false := n2
  have m3 : (FloatKind.f64.format.order y0 0 == some .eq) = false := n3
  have hno := (norm_ok h hm).2
  have hud := dn_up h hm
  have hr : logD y0 = lW (norm y0).1 (norm y0).2 := rfl
  obtain ⟨R, hR⟩ := ex_eq (logD y0)
  rw [hR] at hr ⊢
  have HS := hide (SU.start (e := 0) h hm.pos hm.low hm.high hm.top)
  obtain ⟨R1, hR1⟩ := ex_eq (up 200 y0 0)
  rw [hR1] at hud HS
  have hp0 : Parts (norm y0).1 (norm y0).2 := by
    obtain ⟨⟨v', a, b, c⟩, _, _⟩ := norm_ok h hm
    exact parts_ok a b c hno.1 hno.2
  rw [← hud] at hp0 hr hno
  have HP0 := hide hp0
  have HR := hide hr
  have HNO := hide hno
  clear hR hR1 h hm hno hud hp0 hr n1 n2 n3
  go_enter Try.func80, Try.ntmps80
  go_upto_region 8 with (go_at_call 95; refine (HI.out _).mono ?_; rintro e w' ⟨rfl, rfl⟩)
  clear m1 m2 m3 HI
  go_wp2
  go_loop [0, 3] (fun a b => ∃ (k y : Nat) (e : Int), a = .float .f64 y ∧ b = .int .i64 e ∧ e + (k : Int) ≤ 200 ∧ 0 ≤ e ∧ Hid (SU R1 k y e)) (fun _ b => 300 - (intOf b).toNat)
  case atStart => exact ⟨200, y0, 0, rfl, rfl, by omega, by omega, HS⟩
  case round =>
    obtain ⟨k, y, e, rfl, rfl, hk, he, hS⟩ := hrel
    cases hg : (double.order y 4609434218613702656 == some .gt || double.order y 4609434218613702656 == some .eq)
    · obtain ⟨hq, v, hv, hv0, hv1, hv2⟩ := hS.out.stop hg
      have hg' : (FloatKind.f64.format.order y 4609434218613702656 == some .gt || FloatKind.f64.format.order y 4609434218613702656 == some .eq) = false := hg
      have hp3 := p2_300
      rw [← hq] at HP0 HR HNO
      have HS2 := hide (SD.start (e := e) hv hv0 hv1 (scale_high hv2) (by grind))
      dsimp only at HP0 HR HNO
      obtain ⟨R2, hR2⟩ := ex_eq (dn 200 y e)
      rw [hR2] at HP0 HR HNO HS2
      have he200 : e ≤ 200 := by omega
      clear hg hq hv hv0 hv1 hv2 hS HS hR2 hp3
      go_wp2
      go_loop [0, 3] (fun a b => ∃ (k y : Nat) (i : Int), a = .float .f64 y ∧ b = .int .i64 i ∧ e - 200 + k ≤ i ∧ i ≤ e ∧ Hid (SD R2 k y i)) (fun _ b => (intOf b + 300).toNat)
      case atStart => exact ⟨200, y, e, rfl, rfl, by omega, by omega, HS2⟩
      case round =>
        obtain ⟨k2, y9, e9, rfl, rfl, hk2, he2, hS⟩ := hrel
        cases hg : (double.order y9 4604930618986332160 == some .lt)
        · obtain ⟨hq, _⟩ := hS.out.stop hg
          have hg' : (FloatKind.f64.format.order y9 4604930618986332160 == some .lt) = false := hg
          rw [← hq] at HP0 HR
          dsimp only at HP0 HR
          have HP := HP0
          clear hg hq hS HS2 HNO
          have hp1 := HP.out.s1
          have hp2 := HP.out.s2
          have hp3 := HP.out.s3
          have hp4 := HP.out.s4
          have ht1 := HP.out.t1
          have ht2 := HP.out.t2
          have ht3 := HP.out.t3
          have ht4 := HP.out.t4
          have hu := HP.out.u
          have HQ : qs (uW y9) 13 0 = qW y9 := rfl
          obtain ⟨L, hL⟩ := ex_eq (lW y9 e9)
          rw [hL] at ht4 HR
          obtain ⟨b3, hb3⟩ := ex_eq (ml (fI e9) 4604418534313441775)
          rw [hb3] at ht3 ht4
          obtain ⟨b2, hb2⟩ := ex_eq (ml 4611686018427387904 (ml (sW y9) (qW y9)))
          rw [hb2] at ht2 ht4
          obtain ⟨b1, hb1⟩ := ex_eq (ml (sW y9) (qW y9))
          rw [hb1] at ht1 ht2
          obtain ⟨q9, hq9⟩ := ex_eq (qW y9)
          rw [hq9] at ht1 HQ
          obtain ⟨a4, ha4⟩ := ex_eq (uW y9)
          rw [ha4] at hp4 hu HQ
          obtain ⟨a3, ha3⟩ := ex_eq (sW y9)
          rw [ha3] at hp3 hp4 ht1
          obtain ⟨a2, ha2⟩ := ex_eq (ad y9 4607182418800017408)
          rw [ha2] at hp2 hp3
          obtain ⟨a1, ha1⟩ := ex_eq (sb y9 4607182418800017408)
          rw [ha1] at hp1 hp3
          have hs3 := SQ.start hu
          rw [HQ] at hs3
          have HS3 := hide hs3
          clear hs3
          
          have p1 : ∀ w, (binOp .sub 29 (.float .f64 y9) (.float .f64 4607182418800017408)).run Try.prog w = .ok (.float .f64 a1) w := fun w => run_float_arith (P := Try.prog) w .sub 29 .f64 _ _ _ hp1
          have p2 : ∀ w, (binOp .add 29 (.float .f64 y9) (.float .f64 4607182418800017408)).run Try.prog w = .ok (.float .f64 a2) w := fun w => run_float_arith (P := Try.prog) w .add 29 .f64 _ _ _ hp2
          have p3 : ∀ w, (binOp .quo 29 (.float .f64 a1) (.float .f64 a2)).run Try.prog w = .ok (.float .f64 a3) w := fun w => run_float_arith (P := Try.prog) w .quo 29 .f64 _ _ _ hp3
          have p4 : ∀ w, (binOp .mul 29 (.float .f64 a3) (.float .f64 a3)).run Try.prog w = .ok (.float .f64 a4) w := fun w => run_float_arith (P := Try.prog) w .mul 29 .f64 _ _ _ hp4
          have t1 : ∀ w, (binOp .mul 29 (.float .f64 a3) (.float .f64 q9)).run Try.prog w = .ok (.float .f64 b1) w := fun w => run_float_arith (P := Try.prog) w .mul 29 .f64 _ _ _ ht1
          have t2 : ∀ w, (binOp .mul 29 (.float .f64 4611686018427387904) (.float .f64 b1)).run Try.prog w = .ok (.float .f64 b2) w := fun w => run_float_arith (P := Try.prog) w .mul 29 .f64 _ _ _ ht2
          have t3 : ∀ w, (binOp .mul 29 (.float .f64 (floatOfInt .f64 e9)) (.float .f64 4604418534313441775)).run Try.prog w = .ok (.float .f64 b3) w := fun w => run_float_arith (P := Try.prog) w .mul 29 .f64 _ _ _ ht3
          have t4 : ∀ w, (binOp .add 29 (.float .f64 b2) (.float .f64 b3)).run Try.prog w = .ok (.float .f64 L) w := fun w => run_float_arith (P := Try.prog) w .add 29 .f64 _ _ _ ht4
          clear hp1 hp2 hp3 hp4 ht1 ht2 ht3 ht4 hu HQ hL hb3 hb2 hb1 hq9 ha4 ha3 ha2 ha1 HP HP0
          go_wp2
          go_loop [6, 7] (fun a b => ∃ j q : Nat, a = .float .f64 q ∧ b = .int .i64 (2 * (j : Int) - 1) ∧ Hid (SQ a4 q9 j q)) (fun _ b => (intOf b + 10).toNat)
          case atStart => exact ⟨13, 0, rfl, rfl, HS3⟩
          case round =>
            obtain ⟨j, q, rfl, rfl, hS⟩ := hrel
            have hj := hS.out.1
            cases j with
            | zero =>
              obtain rfl := hS.out.stop
              clear hS HS3
              go_wp2
              go_ret
              exact ⟨by rw [HR.out]; rfl, rfl⟩
            | succ j =>
              obtain ⟨d1, d2, d3, hS2⟩ := hS.out.go
              obtain ⟨q2, hq2⟩ := ex_eq (ad (dk j) (ml a4 q))
              rw [hq2] at d3 hS2
              obtain ⟨D, hD⟩ := ex_eq (dk j)
              rw [hD] at d1 d3
              obtain ⟨G, hG⟩ := ex_eq (ml a4 q)
              rw [hG] at d2 d3
              have HS4 := hide hS2
              have ek : 2 * ((j + 1 : Nat) : Int) - 1 = 2 * (j : Int) + 1 := by omega
              rw [ek]
              have c1 : ∀ w, (binOp .quo 29 (.float .f64 4607182418800017408) (.float .f64 (floatOfInt .f64 (2 * (j : Int) + 1)))).run Try.prog w = .ok (.float .f64 D) w := fun w => run_float_arith (P := Try.prog) w .quo 29 .f64 _ _ _ d1
              have c2 : ∀ w, (binOp .mul 29 (.float .f64 a4) (.float .f64 q)).run Try.prog w = .ok (.float .f64 G) w := fun w => run_float_arith (P := Try.prog) w .mul 29 .f64 _ _ _ d2
              have c3 : ∀ w, (binOp .add 29 (.float .f64 D) (.float .f64 G)).run Try.prog w = .ok (.float .f64 q2) w := fun w => run_float_arith (P := Try.prog) w .add 29 .f64 _ _ _ d3
              clear hq2 hD hG d1 d2 d3 hS2 ek hS
              go_wp2
              go_round
              case rel => exact ⟨j, q2, rfl, by go_num, HS4⟩
              case measure => simp only [intOf]; omega
        · obtain ⟨j, rfl, hd, hS2⟩ := hS.out.go hg
          have hg' : (FloatKind.f64.format.order y9 4604930618986332160 == some .lt) = true := hg
          obtain ⟨y2, hy2⟩ := ex_eq (ml y9 4611686018427387904)
          rw [hy2] at hd hS2
          have HS2' := hide hS2
          clear hS2
          have r1 : ∀ w, (binOp .mul 29 (.float .f64 y9) (.float .f64 4611686018427387904)).run Try.prog w = .ok (.float .f64 y2) w := fun w => run_float_arith (P := Try.prog) w .mul 29 .f64 _ _ _ hd
          clear hg hd hy2 hS
          go_wp2
          go_round
          case rel => exact ⟨j, y2, e9 - 1, rfl, by go_num, by omega, by omega, HS2'⟩
          case measure => simp only [intOf]; omega
    · obtain ⟨j, rfl, hd, hS2⟩ := hS.out.go hg
      have hg' : (FloatKind.f64.format.order y 4609434218613702656 == some .gt || FloatKind.f64.format.order y 4609434218613702656 == some .eq) = true := hg
      obtain ⟨y2, hy2⟩ := ex_eq (dv y 4611686018427387904)
      rw [hy2] at hd hS2
      have HS2' := hide hS2
      clear hS2
      have r1 : ∀ w, (binOp .quo 29 (.float .f64 y) (.float .f64 4611686018427387904)).run Try.prog w = .ok (.float .f64 y2) w := fun w => run_float_arith (P := Try.prog) w .quo 29 .f64 _ _ _ hd
      clear hg hd hy2 hS
      go_wp2
      go_round
      case rel => exact ⟨j, y2, e + 1, rfl, by go_num, by omega, by omega, HS2'⟩
      case measure => simp only [intOf]; omega

end Go.Proofs.Ytlfffkjgepgcfaa.fl
