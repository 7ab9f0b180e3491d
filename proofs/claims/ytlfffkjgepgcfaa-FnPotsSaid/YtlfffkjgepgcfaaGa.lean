/-
  GrowthAt of both packages answers the same. Conditions: those of each theorem.
-/
import Derived.Test.YtlfffkjgepgcfaaGaP
import Derived.Laws.Externs
namespace Go.Proofs.Ytlfffkjgepgcfaa.chance
open Go.RowKit
open base mem fl

open Ieee
theorem single_tests {x : Nat} {v : Rat} (h : V single x v) (h0 : 0 < v) : FloatKind.f32.format.order x x = some .eq ∧ (FloatKind.f32.format.order x 0 == some .lt) = false ∧ (FloatKind.f32.format.order x 0 == some .eq) = false := by
  refine ⟨order_self h, ?_, ?_⟩
  · show (single.order x 0 == _) = _
    rw [order_val h zero_V, if_neg (by grind), if_neg (by grind)]; rfl
  · show (single.order x 0 == _) = _
    rw [order_val h zero_V, if_neg (by grind), if_neg (by grind)]; rfl
theorem conv_nan (b : Nat) (hb : (double.read b).isNaN = true) (w : World) : ∃ r, (convert 29 25 (.float .f64 b)).run Try.prog w = .ok (.float .f32 r) (w.drewN 1) ∧ al single r = none := by
  obtain ⟨s, t, hr⟩ := isNaN_eq hb
  have he : FloatKind.f64.decode b = .nan s t := hr
  refine ⟨(Question.nanConv .f32 b).cut (w.tape w.drawn (Question.nanConv .f32 b)), ?_, al_none (nan32 _)⟩
  simp [convert, run_underlying Try.underlying29, run_underlying Try.underlying25, Conv.floatToFloat, he, Question.forced] <;> rfl
theorem frombits_run (w : World) : (callFunc 96 #[.int .u64 9221120237041090561]).run Try.prog w = .ok (.value (.float .f64 9221120237041090561)) w := by
  rw [run_callFunc_extern Try.func96 (by kernel_rfl) (by kernel_rfl) (by kernel_rfl) (e := Extern.MathFloatBits.float64frombits) (by kernel_rfl)]
  rfl
theorem NaN_any (w : World) : Calls Try.prog 82 #[] w fun e w' => e = .returned (.float .f64 9221120237041090561) ∧ w = w' := by
  have hr := fun w => frombits_run w
  go_enter Try.func82, Try.ntmps82
  go_wp2
  go_ret
  exact ⟨rfl, rfl⟩
theorem nan_tests {x : Nat} (h : al single x = none) : FloatKind.f32.format.order x x = none ∧ (FloatKind.f32.format.order x 0 == some .eq) = false := by
  have h1 : single.order x x = none := order_none_left h
  have h2 : single.order x 0 = none := order_none_left h
  exact ⟨h1, by show (single.order x 0 == _) = _; rw [h2]; rfl⟩
theorem LogNumber_nan {x : Nat} (h : al single x = none) (w : World) : Calls Try.prog 61 #[.float .f32 x] w fun e w' => ∃ r, e = .returned (.float .f32 r) ∧ al single r = none ∧ ∃ n, w' = w.drewN n := by
  obtain ⟨m1, m2⟩ := nan_tests h
  have HN := hide (fun w => NaN_any w)
  obtain ⟨r, c1, hr⟩ := conv_nan 9221120237041090561 (by decide) w
  have HR := hide hr
  clear h hr
  go_enter Try.func61, Try.ntmps61
  go_wp2_with (go_at_call 82; refine (HN.out _).mono ?_; rintro e w' ⟨rfl, rfl⟩)
  go_ret
  exact ⟨r, rfl, HR.out, 1, rfl⟩
set_option maxHeartbeats 1000000 in
theorem LogNumber_V {x : Nat} {v : Rat} (h : V single x v) (h0 : 0 < v) (w : World) : Calls Try.prog 61 #[.float .f32 x] w fun e w' => e = .returned (.float .f32 (logW x)) ∧ w = w' := by
  have HF := hide (fun w => IsFinite_V h w)
  obtain ⟨m1, m2, m3⟩ := single_tests h h0
  obtain ⟨hw, z, hz, hm⟩ := wide_mid h h0
  have HL := hide (fun w => impl_logarithm (wd x) hz hm w)
  obtain ⟨hn, _⟩ := logW_ok h h0
  have c1 : ∀ w, (convert 25 29 (.float .f32 x)).run Try.prog w = .ok (.float .f64 (wd x)) w := fun w => run_convert_float_float (P := Try.prog) w 25 29 .f32 .f64 _ _ (by rw [Try.underlying25]; rfl) Try.underlying29 hw
  have c2 : ∀ w, (convert 29 25 (.float .f64 (logD (wd x)))).run Try.prog w = .ok (.float .f32 (logW x)) w := fun w => run_convert_float_float (P := Try.prog) w 29 25 .f64 .f32 _ _ (by rw [Try.underlying29]; rfl) Try.underlying25 hn
  obtain ⟨L, hL⟩ := ex_eq (logW x)
  rw [hL] at c2 ⊢
  obtain ⟨D, hD⟩ := ex_eq (logD (wd x))
  rw [hD] at c2 HL
  obtain ⟨y, hy⟩ := ex_eq (wd x)
  rw [hy] at c1 HL
  clear h h0 hw hz hm hn hL hD hy
  go_enter Try.func61, Try.ntmps61
  go_wp2_with (first | (go_at_call 77; refine (HF.out _).mono ?_; rintro e w' ⟨rfl, rfl⟩) | (go_at_call 83; refine (HL.out _).mono ?_; rintro e w' ⟨rfl, rfl⟩))
  go_ret
  exact ⟨rfl, rfl⟩
theorem lg_al {x : Nat} (h : PosW x) : al single (lgW x) = lgO (al single x) := by
  rcases h with ⟨v, h, h0⟩ | rfl
  · rw [al_V h]
    obtain ⟨_, z, hz⟩ := logW_ok h h0
    show al single (lgW x) = some (lgW x)
    unfold lgW
    rw [if_neg (V_ne_inf h), al_V hz]
  · rw [(inf_fin infW_read).1]
    show al single (lgW infW) = some (lgW infW)
    unfold lgW
    rw [if_pos rfl]
    exact (inf_fin infW_read).1
def gaF (X : Option Nat) : Nat × Bool := if finB single X then (X.getD 0, true) else (0, false)
theorem gaF_of {c o f : Nat} (h : gaG c o f = true) : gaF (gaX c o f) = (gaOut c o f, gaOk c o f) := by
  unfold gaF gaOut gaOk
  rw [h, Bool.true_and]
  cases finB single (gaX c o f) <;> rfl
theorem gaF_al (r : Nat) : gaF (al single r) = (if finB single (al single r) then r else 0, finB single (al single r)) := by
  unfold gaF
  cases hf : finB single (al single r)
  · rfl
  · cases ha : al single r with
    | none => rw [ha] at hf; cases hf
    | some q => obtain ⟨rfl, _⟩ := al_eq ha; rfl
theorem gaA_all {o f x : Nat} (ho : gt0 o = true) (hf : frB f = true) (hx : al single x = gaA o f) : PosW x ∨ al single x = none := by
  rcases gt0_cases ho with hy | hi
  · obtain ⟨A, hA, pA⟩ := gaA_pos hy hf
    rw [hA] at hx
    obtain ⟨rfl, _⟩ := al_eq hx
    exact .inl pA
  · cases h : al single x with
    | none => exact .inr rfl
    | some q =>
      rcases gaA_inf hi hf with h1 | h1
      · rw [h1, h] at hx; cases hx
      · rw [h1] at hx
        obtain ⟨rfl, _⟩ := al_eq hx
        exact .inl (.inr rfl)
theorem inf_tests : FloatKind.f32.format.order infW infW = some .eq ∧ (FloatKind.f32.format.order infW 0 == some .lt) = false ∧ (FloatKind.f32.format.order infW 0 == some .eq) = false := by decide
theorem LogNumber_inf (w : World) : Calls Try.prog 61 #[.float .f32 infW] w fun e w' => e = .returned (.float .f32 infW) ∧ ∃ n, w' = w.drewN n := by
  have HF := hide (fun w => IsFinite_any infW w)
  rw [(inf_fin infW_read).2] at HF
  obtain ⟨m1, m2, m3⟩ := inf_tests
  obtain ⟨I, hI⟩ := ex_eq infW
  rw [hI] at HF m1 m2 m3 ⊢
  clear hI
  go_enter Try.func61, Try.ntmps61
  go_wp2_with (first | (go_at_call 77; refine (HF.out _).mono ?_; rintro e w' ⟨rfl, n, rfl⟩))
  go_ret
  exact ⟨rfl, n, rfl⟩
theorem l01Narrow_of {b r : Nat} (h : floatToFloatBits .f64 b .f32 = some r) (w : World) : Calls Try.prog 79 #[.float .f64 b] w fun e w' => e = .returned (.float .f32 r) ∧ w = w' := by
  have c2 : ∀ w, (convert 29 25 (.float .f64 b)).run Try.prog w = .ok (.float .f32 r) w := fun w => run_convert_float_float (P := Try.prog) w 29 25 .f64 .f32 _ _ (by rw [Try.underlying29]; rfl) Try.underlying25 h
  clear h
  go_enter Try.func79, Try.ntmps79
  go_wp2
  go_ret
  exact ⟨rfl, rfl⟩
set_option maxHeartbeats 1000000 in
theorem l01Log_V {x : Nat} {v : Rat} (h : V single x v) (h0 : 0 < v) (w : World) : Calls Try.prog 60 #[.float .f32 x] w fun e w' => e = .returned (.float .f32 (logW x)) ∧ w = w' := by
  obtain ⟨hw, z, hz, hm⟩ := wide_mid h h0
  have HL := hide (fun w => spec_l01LogWide (wd x) hz hm w)
  obtain ⟨hn, _⟩ := logW_ok h h0
  have HN := hide (fun w => l01Narrow_of hn w)
  have c1 : ∀ w, (convert 25 29 (.float .f32 x)).run Try.prog w = .ok (.float .f64 (wd x)) w := fun w => run_convert_float_float (P := Try.prog) w 25 29 .f32 .f64 _ _ (by rw [Try.underlying25]; rfl) Try.underlying29 hw
  obtain ⟨L, hL⟩ := ex_eq (logW x)
  rw [hL] at HN ⊢
  obtain ⟨D, hD⟩ := ex_eq (logD (wd x))
  rw [hD] at HN HL
  obtain ⟨y, hy⟩ := ex_eq (wd x)
  rw [hy] at c1 HL
  clear h h0 hw hz hm hn hL hD hy
  go_enter Try.func60, Try.ntmps60
  go_wp2_with (first | (go_at_call 80; refine (HL.out _).mono ?_; rintro e w' ⟨rfl, rfl⟩) | (go_at_call 79; refine (HN.out _).mono ?_; rintro e w' ⟨rfl, rfl⟩))
  go_ret
  exact ⟨rfl, rfl⟩
def infD : Nat := 9218868437227405312
theorem infD_tests : FloatKind.f64.format.order infD infD = some .eq ∧ (FloatKind.f64.format.order infD 0 == some .lt) = false ∧ (FloatKind.f64.format.order infD 0 == some .eq) = false ∧ (FloatKind.f64.format.order infD 9218868437227405311 == some .gt) = true := by decide
theorem IsInf_inf (w : World) : Calls Try.prog 95 #[.float .f64 infD, .int .i64 1] w fun e w' => e = .returned (.bool true) ∧ w = w' := by
  have hm := infD_tests.2.2.2
  obtain ⟨I, hI⟩ := ex_eq infD
  rw [hI] at hm ⊢
  clear hI
  go_enter Try.func95, Try.ntmps95
  go_wp2
  go_ret
  exact ⟨rfl, rfl⟩
theorem LogWide_inf (w : World) : Calls Try.prog 80 #[.float .f64 infD] w fun e w' => e = .returned (.float .f64 infD) ∧ w = w' := by
  have HI := hide (fun w => IsInf_inf w)
  obtain ⟨m1, m2, m3, _⟩ := infD_tests
  obtain ⟨I, hI⟩ := ex_eq infD
  rw [hI] at HI m1 m2 m3 ⊢
  clear hI
  go_enter Try.func80, Try.ntmps80
  go_wp2_with (go_at_call 95; refine (HI.out _).mono ?_; rintro e w' ⟨rfl, rfl⟩)
  go_ret
  exact ⟨rfl, rfl⟩
theorem l01Log_inf (w : World) : Calls Try.prog 60 #[.float .f32 infW] w fun e w' => e = .returned (.float .f32 infW) ∧ w = w' := by
  have HL := hide (fun w => LogWide_inf w)
  have HN := hide (fun w => l01Narrow_of (show floatToFloatBits .f64 infD .f32 = some infW by decide) w)
  have c1 : ∀ w, (convert 25 29 (.float .f32 infW)).run Try.prog w = .ok (.float .f64 infD) w := fun w => run_convert_float_float (P := Try.prog) w 25 29 .f32 .f64 _ _ (by rw [Try.underlying25]; rfl) Try.underlying29 (by decide)
  obtain ⟨I, hI⟩ := ex_eq infD
  rw [hI] at HL HN c1
  obtain ⟨J, hJ⟩ := ex_eq infW
  rw [hJ] at HN c1 ⊢
  clear hI hJ
  go_enter Try.func60, Try.ntmps60
  go_wp2_with (first | (go_at_call 80; refine (HL.out _).mono ?_; rintro e w' ⟨rfl, rfl⟩) | (go_at_call 79; refine (HN.out _).mono ?_; rintro e w' ⟨rfl, rfl⟩))
  go_ret
  exact ⟨rfl, rfl⟩
/-- both: a number above 0, or without an end -/
theorem LogNumber_pos {x : Nat} (h : PosW x) (w : World) : Calls Try.prog 61 #[.float .f32 x] w fun e w' => e = .returned (.float .f32 (lgW x)) ∧ ∃ n, w' = w.drewN n := by
  rcases h with ⟨v, h, h0⟩ | rfl
  · refine (LogNumber_V h h0 w).mono ?_
    rintro e w' ⟨rfl, rfl⟩
    exact ⟨by unfold lgW; rw [if_neg (V_ne_inf h)], 0, rfl⟩
  · exact LogNumber_inf w
theorem l01Log_pos {x : Nat} (h : PosW x) (w : World) : Calls Try.prog 60 #[.float .f32 x] w fun e w' => e = .returned (.float .f32 (lgW x)) ∧ w = w' := by
  rcases h with ⟨v, h, h0⟩ | rfl
  · refine (l01Log_V h h0 w).mono ?_
    rintro e w' ⟨rfl, rfl⟩
    exact ⟨by unfold lgW; rw [if_neg (V_ne_inf h)], rfl⟩
  · exact l01Log_inf w

/-- LogNumber of whatever word: told up to which NaN it is -/
theorem LogNumber_any {x : Nat} (h : PosW x ∨ al single x = none) (w : World) : Calls Try.prog 61 #[.float .f32 x] w fun e w' => ∃ r, e = .returned (.float .f32 r) ∧ al single r = lgO (al single x) ∧ ∃ n, w' = w.drewN n := by
  rcases h with h | h
  · refine (LogNumber_pos h w).mono ?_
    rintro e w' ⟨rfl, hn⟩
    exact ⟨_, rfl, lg_al h, hn⟩
  · refine (LogNumber_nan h w).mono ?_
    rintro e w' ⟨r, rfl, hr, hn⟩
    exact ⟨r, rfl, by rw [hr, h]; rfl, hn⟩
theorem gaOut_V (c o f : Nat) : ∃ x, V single (gaOut c o f) x := by
  unfold gaOut
  cases h : gaOk c o f
  · exact ⟨0, zero_V⟩
  · rw [if_pos rfl]
    have h2 : finB single (gaX c o f) = true := by
      unfold gaOk at h
      rw [Bool.and_eq_true] at h
      exact h.2
    cases hX : gaX c o f with
    | none => rw [hX] at h2; cases h2
    | some r =>
      rw [hX] at h2
      have hn : (single.read r).isNaN = false := by
        have h3 := hX
        unfold gaX at h3
        cases hU : ao .mul .f32 (al single c) (lgO (gaA o f)) with
        | none => rw [hU] at h3; cases h3
        | some u =>
          cases hV : ao .mul .f32 (ao .sub .f32 (some 1065353216) (al single c)) (lgO (gaB f)) with
          | none => rw [hU, hV] at h3; cases h3
          | some v => rw [hU, hV] at h3; exact op_notnan (k := .f32) (op := .add) h3
      exact fin_V (by rw [Option.getD_some, al_some hn]; exact h2)

set_option maxHeartbeats 2000000 in
theorem spec_GrowthAt (c o f : Nat) (w : World) : Calls Try.prog 21 #[.float .f32 c, .float .f32 o, .float .f32 f] w fun e w' => e = .returned (.tuple #[.float .f32 (gaOut c o f), .bool (gaOk c o f)]) ∧ ∃ n, w' = w.drewN n := by
  cases h1 : shB c
  · have hK : gaOk c o f = false := by simp [gaOk, gaG, h1]
    have hO : gaOut c o f = 0 := by simp [gaOut, hK]
    rw [hO, hK]
    clear hO hK
    go_enter Try.func21, Try.ntmps21
    go_wp2_with (first | (go_at_call 55; refine (l02Share_any _ _).mono ?_; rintro e w' ⟨rfl, rfl⟩) | (go_at_call 58; refine (l02Above_any _ _).mono ?_; rintro e w' ⟨rfl, n0, rfl⟩))
    go_ret2
    exact ⟨rfl, 0, rfl⟩
  cases h2 : gt0 o
  · have hK : gaOk c o f = false := by simp [gaOk, gaG, h2]
    have hO : gaOut c o f = 0 := by simp [gaOut, hK]
    rw [hO, hK]
    have ho : (FloatKind.f32.format.order o 0 == some .gt) = false := h2
    clear hO hK
    go_enter Try.func21, Try.ntmps21
    go_wp2_with (first | (go_at_call 55; refine (l02Share_any _ _).mono ?_; rintro e w' ⟨rfl, rfl⟩) | (go_at_call 58; refine (l02Above_any _ _).mono ?_; rintro e w' ⟨rfl, n0, rfl⟩))
    go_ret2
    exact ⟨rfl, n0, rfl⟩
  cases h3 : finB single (al single o)
  · have hK : gaOk c o f = false := by simp [gaOk, gaG, h3]
    have hO : gaOut c o f = 0 := by simp [gaOut, hK]
    rw [hO, hK]
    clear hO hK
    go_enter Try.func21, Try.ntmps21
    go_wp2_with (first | (go_at_call 55; refine (l02Share_any _ _).mono ?_; rintro e w' ⟨rfl, rfl⟩) | (go_at_call 58; refine (l02Above_any _ _).mono ?_; rintro e w' ⟨rfl, n0, rfl⟩))
    go_ret2
    exact ⟨rfl, n0, rfl⟩
  cases h4 : geq0 f
  · have hK : gaOk c o f = false := by simp [gaOk, gaG, frB, h4]
    have hO : gaOut c o f = 0 := by simp [gaOut, hK]
    rw [hO, hK]
    have g1 : (FloatKind.f32.format.order f 0 == some .gt || FloatKind.f32.format.order f 0 == some .eq) = false := h4
    clear hO hK
    go_enter Try.func21, Try.ntmps21
    go_wp2_with (first | (go_at_call 55; refine (l02Share_any _ _).mono ?_; rintro e w' ⟨rfl, rfl⟩) | (go_at_call 58; refine (l02Above_any _ _).mono ?_; rintro e w' ⟨rfl, n0, rfl⟩))
    go_ret2
    exact ⟨rfl, n0, rfl⟩
  cases h5 : sh1 f
  · have hK : gaOk c o f = false := by simp [gaOk, gaG, frB, h4, h5]
    have hO : gaOut c o f = 0 := by simp [gaOut, hK]
    rw [hO, hK]
    have g1 : (FloatKind.f32.format.order f 0 == some .gt || FloatKind.f32.format.order f 0 == some .eq) = true := h4
    have g2 : (FloatKind.f32.format.order f 1065353216 == some .lt) = false := h5
    clear hO hK
    go_enter Try.func21, Try.ntmps21
    go_wp2_with (first | (go_at_call 55; refine (l02Share_any _ _).mono ?_; rintro e w' ⟨rfl, rfl⟩) | (go_at_call 58; refine (l02Above_any _ _).mono ?_; rintro e w' ⟨rfl, n0, rfl⟩))
    go_ret2
    exact ⟨rfl, n0, rfl⟩
  have hf : frB f = true := by unfold frB; rw [h4, h5]; rfl
  have g1 : (FloatKind.f32.format.order f 0 == some .gt || FloatKind.f32.format.order f 0 == some .eq) = true := h4
  have g2 : (FloatKind.f32.format.order f 1065353216 == some .lt) = true := h5
  have HF : gaF (gaX c o f) = (gaOut c o f, gaOk c o f) := gaF_of (by simp [gaG, h1, h2, h3, hf])
  have hy : ∃ y, V single o y ∧ 0 < y := by
    rcases gt0_cases h2 with h | h
    · exact h
    · rw [(inf_fin h).2] at h3; cases h3
  obtain ⟨A, hA, pA⟩ := gaA_pos hy hf
  obtain ⟨B, hB, pB⟩ := gaB_pos hf
  obtain ⟨R0, hR0⟩ := ex_eq (gaOut c o f)
  obtain ⟨R1, hR1⟩ := ex_eq (gaOk c o f)
  rw [hR0, hR1] at HF ⊢
  have HX := hide HF
  have HBB := hide hB
  have HPB := hide pB
  have HAA := hide hA
  have HPA := hide pA
  clear hR0 hR1 HF hB pB hA pA hf hy
  go_enter Try.func21, Try.ntmps21
  go_upto_region 3 with (first | (go_at_call 55; refine (l02Share_any _ _).mono ?_; rintro e w' ⟨rfl, rfl⟩) | (go_at_call 58; refine (l02Above_any _ _).mono ?_; rintro e w' ⟨rfl, n0, rfl⟩))
  obtain ⟨r1, n1, e1, a1⟩ := run_fop .mul (.inr (.inr (.inl rfl))) 25 .f32 f o Try.prog (w.drewN (n0))
  rw [World.drewN_drewN] at e1
  obtain ⟨r2, n2, e2, a2⟩ := run_fop .add (.inl rfl) 25 .f32 1065353216 r1 Try.prog (w.drewN (n0 + n1))
  rw [World.drewN_drewN] at e2
  rw [al_one] at a2
  have aA : al single r2 = gaA o f := by
    show al FloatKind.f32.format r2 = _
    rw [a2, a1]
    rfl
  have pA : PosW r2 := by
    have h1 := aA.trans HAA.out
    obtain ⟨rfl, _⟩ := al_eq h1
    exact HPA.out
  have HC := hide (fun V => l01Log_pos pA V)
  have aL : al single (lgW r2) = lgO (gaA o f) := by rw [lg_al pA, aA]
  obtain ⟨r3, h3⟩ := ex_eq (lgW r2)
  rw [h3] at HC aL
  clear h3 pA
  clear aA a1 a2
  go_wp2_with fail
  refine (HC.out _).mono ?_
  rintro e w1 ⟨rfl, rfl⟩
  obtain ⟨r4, n4, e4, a4⟩ := run_fop .mul (.inr (.inr (.inl rfl))) 25 .f32 c r3 Try.prog (w.drewN (n0 + n1 + n2))
  rw [World.drewN_drewN] at e4
  obtain ⟨r5, n5, e5, a5⟩ := run_fop .sub (.inr (.inl rfl)) 25 .f32 1065353216 c Try.prog (w.drewN (n0 + n1 + n2 + n4))
  rw [World.drewN_drewN] at e5
  obtain ⟨r6, n6, e6, a6⟩ := run_fop .sub (.inr (.inl rfl)) 25 .f32 1065353216 f Try.prog (w.drewN (n0 + n1 + n2 + n4 + n5))
  rw [World.drewN_drewN] at e6
  rw [al_one] at a5 a6
  have aB : al single r6 = gaB f := by
    show al FloatKind.f32.format r6 = _
    rw [a6]
    rfl
  have pB : PosW r6 := by
    have h1 := aB.trans HBB.out
    obtain ⟨rfl, _⟩ := al_eq h1
    exact HPB.out
  have HD := hide (fun V => l01Log_pos pB V)
  have aM : al single (lgW r6) = lgO (gaB f) := by rw [lg_al pB, aB]
  obtain ⟨r7, h7⟩ := ex_eq (lgW r6)
  rw [h7] at HD aM
  clear h7 pB
  have HA4 := hide a4
  have HA5 := hide a5
  have HAL := hide aL
  have HAM := hide aM
  clear aB a6 a4 a5 aL aM HBB HPB
  go_wp2_with fail
  refine (HD.out _).mono ?_
  rintro e w1 ⟨rfl, rfl⟩
  obtain ⟨r8, n8, e8, a8⟩ := run_fop .mul (.inr (.inr (.inl rfl))) 25 .f32 r5 r7 Try.prog (w.drewN (n0 + n1 + n2 + n4 + n5 + n6))
  rw [World.drewN_drewN] at e8
  obtain ⟨r9, n9, e9, a9⟩ := run_fop .add (.inl rfl) 25 .f32 r4 r8 Try.prog (w.drewN (n0 + n1 + n2 + n4 + n5 + n6 + n8))
  rw [World.drewN_drewN] at e9
  have aX : al single r9 = gaX c o f := by
    show al FloatKind.f32.format r9 = _
    rw [a9, a8, HA5.out, HA4.out]
    unfold gaX
    rw [← HAL.out, ← HAM.out]
    rfl
  have hE := (gaF_al r9).symm.trans ((congrArg gaF aX).trans HX.out)
  have HC2 := hide (fun V => l02Number_any r9 V)
  have HE := hide hE
  clear a8 a9 aX hE HX HA4 HA5 HAL HAM
  generalize finB single (al single r9) = F at HC2 HE
  cases F
  all_goals
    go_wp2_with fail
    refine (HC2.out _).mono ?_
    rintro e w1 ⟨rfl, n, rfl⟩
    go_wp2
    go_ret2
    have h1 := HE.out
    simp only [Bool.false_eq_true, if_false, if_true, Prod.mk.injEq] at h1
    obtain ⟨rfl, rfl⟩ := h1
    exact ⟨rfl, _, rfl⟩

set_option maxHeartbeats 2000000 in
theorem impl_GrowthAt (c o f : Nat) (w : World) : Calls Try.prog 22 #[.float .f32 c, .float .f32 o, .float .f32 f] w fun e w' => e = .returned (.tuple #[.float .f32 (gaOut c o f), .bool (gaOk c o f)]) ∧ ∃ n, w' = w.drewN n := by
  cases h1 : shB c
  · have hK : gaOk c o f = false := by simp [gaOk, gaG, h1]
    have hO : gaOut c o f = 0 := by simp [gaOut, hK]
    rw [hO, hK]
    clear hO hK
    go_enter Try.func22, Try.ntmps22
    go_wp2_with (first | (go_at_call 56; refine (isChance_any _ _).mono ?_; rintro e w' ⟨rfl, rfl⟩))
    go_ret2
    exact ⟨rfl, 0, rfl⟩
  cases h2 : gt0 o
  · have hK : gaOk c o f = false := by simp [gaOk, gaG, h2]
    have hO : gaOut c o f = 0 := by simp [gaOut, hK]
    rw [hO, hK]
    have ho : (FloatKind.f32.format.order o 0 == some .gt) = false := h2
    clear hO hK
    go_enter Try.func22, Try.ntmps22
    go_wp2_with (first | (go_at_call 56; refine (isChance_any _ _).mono ?_; rintro e w' ⟨rfl, rfl⟩))
    go_ret2
    exact ⟨rfl, 0, rfl⟩
  have ho : (FloatKind.f32.format.order o 0 == some .gt) = true := h2
  cases h4 : geq0 f
  · have hK : gaOk c o f = false := by simp [gaOk, gaG, frB, h4]
    have hO : gaOut c o f = 0 := by simp [gaOut, hK]
    rw [hO, hK]
    have g1 : (FloatKind.f32.format.order f 0 == some .gt || FloatKind.f32.format.order f 0 == some .eq) = false := h4
    clear hO hK
    go_enter Try.func22, Try.ntmps22
    go_wp2_with (first | (go_at_call 56; refine (isChance_any _ _).mono ?_; rintro e w' ⟨rfl, rfl⟩))
    go_ret2
    exact ⟨rfl, 0, rfl⟩
  cases h5 : sh1 f
  · have hK : gaOk c o f = false := by simp [gaOk, gaG, frB, h4, h5]
    have hO : gaOut c o f = 0 := by simp [gaOut, hK]
    rw [hO, hK]
    have g1 : (FloatKind.f32.format.order f 0 == some .gt || FloatKind.f32.format.order f 0 == some .eq) = true := h4
    have g2 : (FloatKind.f32.format.order f 1065353216 == some .lt) = false := h5
    clear hO hK
    go_enter Try.func22, Try.ntmps22
    go_wp2_with (first | (go_at_call 56; refine (isChance_any _ _).mono ?_; rintro e w' ⟨rfl, rfl⟩))
    go_ret2
    exact ⟨rfl, 0, rfl⟩
  have hf : frB f = true := by unfold frB; rw [h4, h5]; rfl
  have g1 : (FloatKind.f32.format.order f 0 == some .gt || FloatKind.f32.format.order f 0 == some .eq) = true := h4
  have g2 : (FloatKind.f32.format.order f 1065353216 == some .lt) = true := h5
  have HF : gaF (gaX c o f) = (gaOut c o f, gaOk c o f) := by
    cases h3 : finB single (al single o)
    · have hi : single.read o = .infinity false := by
        rcases gt0_cases h2 with ⟨y, hy, _⟩ | h
        · rw [V_fin hy] at h3; cases h3
        · exact h
      have h6 := ga_inf h1 hi hf
      have hK : gaOk c o f = false := by simp [gaOk, h6]
      have hO : gaOut c o f = 0 := by simp [gaOut, hK]
      rw [hK, hO]
      unfold gaF
      rw [h6]
      rfl
    · exact gaF_of (by simp [gaG, h1, h2, h3, hf])
  obtain ⟨B, hB, pB⟩ := gaB_pos hf
  obtain ⟨R0, hR0⟩ := ex_eq (gaOut c o f)
  obtain ⟨R1, hR1⟩ := ex_eq (gaOk c o f)
  rw [hR0, hR1] at HF ⊢
  have HX := hide HF
  have HBB := hide hB
  have HPB := hide pB
  have HPA := hide (fun (x : Nat) (hx : al single x = gaA o f) => gaA_all h2 hf hx)
  clear hR0 hR1 HF hB pB hf
  go_enter Try.func22, Try.ntmps22
  go_upto_region 3 with (first | (go_at_call 56; refine (isChance_any _ _).mono ?_; rintro e w' ⟨rfl, rfl⟩))
  obtain ⟨r1, n1, e1, a1⟩ := run_fop .mul (.inr (.inr (.inl rfl))) 25 .f32 f o Try.prog (w)
  obtain ⟨r2, n2, e2, a2⟩ := run_fop .add (.inl rfl) 25 .f32 1065353216 r1 Try.prog (w.drewN (n1))
  rw [World.drewN_drewN] at e2
  rw [al_one] at a2
  have aA : al single r2 = gaA o f := by
    show al FloatKind.f32.format r2 = _
    rw [a2, a1]
    rfl
  have HC := hide (fun V => LogNumber_any (HPA.out r2 aA) V)
  clear a1 a2
  go_wp2_with fail
  refine (HC.out _).mono ?_
  rintro e w1 ⟨r3, rfl, aL, n3, rfl⟩
  rw [aA] at aL
  clear aA
  rw [World.drewN_drewN]
  obtain ⟨r4, n4, e4, a4⟩ := run_fop .mul (.inr (.inr (.inl rfl))) 25 .f32 c r3 Try.prog (w.drewN (n1 + n2 + n3))
  rw [World.drewN_drewN] at e4
  obtain ⟨r5, n5, e5, a5⟩ := run_fop .sub (.inr (.inl rfl)) 25 .f32 1065353216 c Try.prog (w.drewN (n1 + n2 + n3 + n4))
  rw [World.drewN_drewN] at e5
  obtain ⟨r6, n6, e6, a6⟩ := run_fop .sub (.inr (.inl rfl)) 25 .f32 1065353216 f Try.prog (w.drewN (n1 + n2 + n3 + n4 + n5))
  rw [World.drewN_drewN] at e6
  rw [al_one] at a5 a6
  have aB : al single r6 = gaB f := by
    show al FloatKind.f32.format r6 = _
    rw [a6]
    rfl
  have pB : PosW r6 := by
    have h1 := aB.trans HBB.out
    obtain ⟨rfl, _⟩ := al_eq h1
    exact HPB.out
  have HD := hide (fun V => LogNumber_pos pB V)
  have aM : al single (lgW r6) = lgO (gaB f) := by rw [lg_al pB, aB]
  obtain ⟨r7, h7⟩ := ex_eq (lgW r6)
  rw [h7] at HD aM
  clear h7 pB
  have HA4 := hide a4
  have HA5 := hide a5
  have HAL := hide aL
  have HAM := hide aM
  clear aB a6 a4 a5 aL aM HBB HPB
  go_wp2_with fail
  refine (HD.out _).mono ?_
  rintro e w1 ⟨rfl, n7, rfl⟩
  rw [World.drewN_drewN]
  obtain ⟨r8, n8, e8, a8⟩ := run_fop .mul (.inr (.inr (.inl rfl))) 25 .f32 r5 r7 Try.prog (w.drewN (n1 + n2 + n3 + n4 + n5 + n6 + n7))
  rw [World.drewN_drewN] at e8
  obtain ⟨r9, n9, e9, a9⟩ := run_fop .add (.inl rfl) 25 .f32 r4 r8 Try.prog (w.drewN (n1 + n2 + n3 + n4 + n5 + n6 + n7 + n8))
  rw [World.drewN_drewN] at e9
  have aX : al single r9 = gaX c o f := by
    show al FloatKind.f32.format r9 = _
    rw [a9, a8, HA5.out, HA4.out]
    unfold gaX
    rw [← HAL.out, ← HAM.out]
    rfl
  have hE := (gaF_al r9).symm.trans ((congrArg gaF aX).trans HX.out)
  have HC2 := hide (fun V => checked_any r9 V)
  have HE := hide hE
  clear a8 a9 aX hE HX HA4 HA5 HAL HAM
  generalize finB single (al single r9) = F at HC2 HE
  cases F
  all_goals
    go_wp2_with fail
    refine (HC2.out _).mono ?_
    rintro e w1 ⟨rfl, n, rfl⟩
    go_wp2
    go_ret2
    have h1 := HE.out
    simp only [Bool.false_eq_true, if_false, if_true, Prod.mk.injEq] at h1
    obtain ⟨rfl, rfl⟩ := h1
    exact ⟨rfl, _, rfl⟩

end Go.Proofs.Ytlfffkjgepgcfaa.chance
