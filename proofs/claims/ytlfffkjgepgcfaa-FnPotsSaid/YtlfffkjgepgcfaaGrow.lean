/-
  GrowthShare of both packages answers the same. Conditions: those of each theorem.
-/
import Derived.Test.YtlfffkjgepgcfaaNan
namespace Go.Proofs.Ytlfffkjgepgcfaa.chance
open Go.RowKit
open base mem fl

open Ieee
/-! ### no program in sight -/
def ltzX (X : Option Nat) : Bool := match X with | some r => single.order r 0 == some .lt | none => false
theorem ltz_al (r : Nat) : (single.order r 0 == some .lt) = ltzX (al single r) := by
  cases h : al single r with
  | none => rw [order_none_left h]; rfl
  | some q => obtain ⟨rfl, _⟩ := al_eq h; rfl
def gsX (c o : Nat) : Option Nat := ao .quo .f32 (ao .sub .f32 (ao .mul .f32 (al single c) (ao .add .f32 (al single o) (some 1065353216))) (some 1065353216)) (al single o)
def gsF (X : Option Nat) : Nat × Bool := if ltzX X then (0, true) else if finB single X then (X.getD 0, true) else (0, false)
def gsG (c o : Nat) : Bool := shB c && (gt0 o && finB single (al single o))
def gsOk (c o : Nat) : Bool := gsG c o && (gsF (gsX c o)).2
def gsOut (c o : Nat) : Nat := if gsG c o then (gsF (gsX c o)).1 else 0
theorem gsF_neg {X : Option Nat} (h : ltzX X = true) : gsF X = (0, true) := by unfold gsF; rw [h]; rfl
theorem gsF_pos {r : Nat} (h : ltzX (al single r) = false) : gsF (al single r) = (if finB single (al single r) then r else 0, finB single (al single r)) := by
  unfold gsF
  rw [h, if_neg (by simp)]
  cases hf : finB single (al single r)
  · rfl
  · cases ha : al single r with
    | none => rw [ha] at hf; cases hf
    | some q => obtain ⟨rfl, _⟩ := al_eq ha; rfl
theorem gsOut_V (c o : Nat) : ∃ x, V single (gsOut c o) x := by
  unfold gsOut
  split
  · unfold gsF
    split
    · exact ⟨0, zero_V⟩
    · split
      · next h =>
        cases hX : gsX c o with
        | none => rw [hX] at h; cases h
        | some r =>
          rw [hX] at h
          have hn : (single.read r).isNaN = false := by
            cases hY : ao .sub .f32 (ao .mul .f32 (al single c) (ao .add .f32 (al single o) (some 1065353216))) (some 1065353216) with
            | none => unfold gsX at hX; rw [hY] at hX; cases hX
            | some y =>
              cases hO : al single o with
              | none => unfold gsX at hX; rw [hY, hO] at hX; cases hX
              | some q => unfold gsX at hX; rw [hY, hO] at hX; exact op_notnan (k := .f32) (op := .quo) hX
          exact fin_V (by rw [Option.getD_some, al_some hn]; exact h)
      · exact ⟨0, zero_V⟩
  · exact ⟨0, zero_V⟩
theorem al_one : al FloatKind.f32.format 1065353216 = some 1065353216 := al_V one_V32
/-- odds without an end: nothing is told -/
theorem gs_inf {c o : Nat} (hc : shB c = true) (ho : gt0 o = true) (hf : finB single (al single o) = false) : gsF (gsX c o) = (0, false) := by
  obtain ⟨x, ⟨s, m, e, hr, rfl⟩, x0, x1⟩ := shB_V hc
  have hn : (single.read o).isNaN = false := by
    cases h : (single.read o).isNaN
    · rfl
    · unfold gt0 at ho; rw [order_none_left (al_none h)] at ho; cases ho
  have hi : ∃ t, single.read o = .infinity t := by
    cases h : single.read o with
    | nan t f => rw [h] at hn; cases hn
    | infinity t => exact ⟨t, rfl⟩
    | number t n i =>
      rw [al_some hn] at hf
      have hf2 : finB single (some o) = true := by simp only [finB]; rw [h]; rfl
      rw [hf2] at hf; cases hf
  obtain ⟨t, hi⟩ := hi
  have ht : t = false := by
    unfold gt0 at ho
    rw [order_zero_inf hi (show single.read 0 = .number false 0 (-149) by decide)] at ho
    cases t
    · rfl
    · cases ho
  subst ht
  have hX : gsX c o = none := by
    have h1 : floatBits .add .f32 o 1065353216 = some (single.write (.infinity false)) := by
      show single.add o 1065353216 = _
      unfold Format.add
      rw [hi, show single.read 1065353216 = .number false 8388608 (-23) by decide]
      rfl
    have hw : single.read (single.write (.infinity false)) = .infinity false := by decide
    unfold gsX
    rw [al_V ⟨s, m, e, hr, rfl⟩, al_some hn]
    simp only [ao, h1]
    have hm : floatBits .mul .f32 c (single.write (.infinity false)) = none ∨ ∃ u, floatBits .mul .f32 c (single.write (.infinity false)) = some (single.write (.infinity u)) := by
      show single.mul c _ = none ∨ ∃ u, single.mul c _ = _
      unfold Format.mul
      rw [hr, hw]
      by_cases h0 : m = 0
      · exact .inl (by simp [Datum.product, h0])
      · exact .inr ⟨false ^^ s, by simp [Datum.product, h0]⟩
    rcases hm with hm | ⟨u, hm⟩
    · rw [hm]
    · rw [hm]
      have hs : floatBits .sub .f32 (single.write (.infinity u)) 1065353216 = some (single.write (.infinity u)) := by
        cases u <;> decide
      simp only [hs]
      show single.div _ o = none
      unfold Format.div
      rw [hi]
      cases u <;> rfl
  rw [hX]
  rfl

set_option maxHeartbeats 1000000 in
theorem spec_GrowthShare (c o : Nat) (w : World) : Calls Try.prog 19 #[.float .f32 c, .float .f32 o] w fun e w' => e = .returned (.tuple #[.float .f32 (gsOut c o), .bool (gsOk c o)]) ∧ ∃ n, w' = w.drewN n := by
  cases h1 : shB c
  · have hK : gsOk c o = false := by simp [gsOk, gsG, h1]
    have hO : gsOut c o = 0 := by simp [gsOut, gsG, h1]
    rw [hO, hK]
    clear hO hK
    go_enter Try.func19, Try.ntmps19
    go_wp2_with (first | (go_at_call 55; refine (l02Share_any _ _).mono ?_; rintro e w' ⟨rfl, rfl⟩) | (go_at_call 58; refine (l02Above_any _ _).mono ?_; rintro e w' ⟨rfl, n0, rfl⟩))
    go_ret2
    exact ⟨rfl, 0, rfl⟩
  cases h2 : gt0 o
  · have hK : gsOk c o = false := by simp [gsOk, gsG, h2]
    have hO : gsOut c o = 0 := by simp [gsOut, gsG, h2]
    rw [hO, hK]
    have ho : (FloatKind.f32.format.order o 0 == some .gt) = false := h2
    clear hO hK
    go_enter Try.func19, Try.ntmps19
    go_wp2_with (first | (go_at_call 55; refine (l02Share_any _ _).mono ?_; rintro e w' ⟨rfl, rfl⟩) | (go_at_call 58; refine (l02Above_any _ _).mono ?_; rintro e w' ⟨rfl, n0, rfl⟩))
    go_ret2
    exact ⟨rfl, n0, rfl⟩
  cases h3 : finB single (al single o)
  · have hK : gsOk c o = false := by simp [gsOk, gsG, h3]
    have hO : gsOut c o = 0 := by simp [gsOut, gsG, h3]
    rw [hO, hK]
    clear hO hK
    go_enter Try.func19, Try.ntmps19
    go_wp2_with (first | (go_at_call 55; refine (l02Share_any _ _).mono ?_; rintro e w' ⟨rfl, rfl⟩) | (go_at_call 58; refine (l02Above_any _ _).mono ?_; rintro e w' ⟨rfl, n0, rfl⟩))
    go_ret2
    exact ⟨rfl, n0, rfl⟩
  have HG : gsOk c o = (gsF (gsX c o)).2 := by simp [gsOk, gsG, h1, h2, h3]
  have HO : gsOut c o = (gsF (gsX c o)).1 := by simp [gsOut, gsG, h1, h2, h3]
  rw [HG, HO]
  clear HG HO
  obtain ⟨G, hG⟩ := ex_eq (gsF (gsX c o))
  rw [hG]
  have HX := hide hG
  clear hG
  go_enter Try.func19, Try.ntmps19
  go_upto_region 3 with (first | (go_at_call 55; refine (l02Share_any _ _).mono ?_; rintro e w' ⟨rfl, rfl⟩) | (go_at_call 58; refine (l02Above_any _ _).mono ?_; rintro e w' ⟨rfl, n0, rfl⟩))
  obtain ⟨r1, n1, e1, a1⟩ := run_fop .add (.inl rfl) 25 .f32 o 1065353216 Try.prog (w.drewN (n0))
  rw [World.drewN_drewN] at e1
  obtain ⟨r2, n2, e2, a2⟩ := run_fop .mul (.inr (.inr (.inl rfl))) 25 .f32 c r1 Try.prog (w.drewN (n0 + n1))
  rw [World.drewN_drewN] at e2
  obtain ⟨r3, n3, e3, a3⟩ := run_fop .sub (.inr (.inl rfl)) 25 .f32 r2 1065353216 Try.prog (w.drewN (n0 + n1 + n2))
  rw [World.drewN_drewN] at e3
  obtain ⟨r4, n4, e4, a4⟩ := run_fop .quo (.inr (.inr (.inr rfl))) 25 .f32 r3 o Try.prog (w.drewN (n0 + n1 + n2 + n3))
  rw [World.drewN_drewN] at e4
  rw [al_one] at a1 a3
  have aX : al single r4 = gsX c o := by
    show al FloatKind.f32.format r4 = _
    rw [a4, a3, a2, a1]
    rfl
  have HY := HX.out
  rw [← aX] at HY
  clear a1 a2 a3 a4 aX HX
  cases hl : ltzX (al single r4)
  · have hl' : (FloatKind.f32.format.order r4 0 == some .lt) = false := (ltz_al r4).trans hl
    have HE := hide (HY.symm.trans (gsF_pos hl))
    have HC := hide (fun V => l02Number_any r4 V)
    generalize finB single (al single r4) = F at HC HE
    clear hl HY
    cases F
    all_goals
      go_wp2_with fail
      refine (HC.out _).mono ?_
      rintro e w1 ⟨rfl, n, rfl⟩
      go_wp2
      go_ret2
      rw [HE.out]
      exact ⟨rfl, _, rfl⟩
  · have hl' : (FloatKind.f32.format.order r4 0 == some .lt) = true := (ltz_al r4).trans hl
    have HE := hide (HY.symm.trans (gsF_neg hl))
    have HC := hide (fun V => l02Number_any 0 V)
    rw [al_V zero_V, show finB single (some 0) = true from (by have := V_fin zero_V; rwa [al_V zero_V] at this)] at HC
    clear hl HY
    go_wp2_with fail
    refine (HC.out _).mono ?_
    rintro e w1 ⟨rfl, n, rfl⟩
    go_wp2
    go_ret2
    rw [HE.out]
    exact ⟨rfl, _, rfl⟩

set_option maxHeartbeats 1000000 in
theorem impl_GrowthShare (c o : Nat) (w : World) : Calls Try.prog 20 #[.float .f32 c, .float .f32 o] w fun e w' => e = .returned (.tuple #[.float .f32 (gsOut c o), .bool (gsOk c o)]) ∧ ∃ n, w' = w.drewN n := by
  cases h1 : shB c
  · have hK : gsOk c o = false := by simp [gsOk, gsG, h1]
    have hO : gsOut c o = 0 := by simp [gsOut, gsG, h1]
    rw [hO, hK]
    clear hO hK
    go_enter Try.func20, Try.ntmps20
    go_wp2_with (first | (go_at_call 56; refine (isChance_any _ _).mono ?_; rintro e w' ⟨rfl, rfl⟩))
    go_ret2
    exact ⟨rfl, 0, rfl⟩
  cases h2 : gt0 o
  · have hK : gsOk c o = false := by simp [gsOk, gsG, h2]
    have hO : gsOut c o = 0 := by simp [gsOut, gsG, h2]
    rw [hO, hK]
    have ho : (FloatKind.f32.format.order o 0 == some .gt) = false := h2
    clear hO hK
    go_enter Try.func20, Try.ntmps20
    go_wp2_with (first | (go_at_call 56; refine (isChance_any _ _).mono ?_; rintro e w' ⟨rfl, rfl⟩))
    go_ret2
    exact ⟨rfl, 0, rfl⟩
  have HG : gsOk c o = (gsF (gsX c o)).2 := by
    cases h3 : finB single (al single o)
    · rw [gs_inf h1 h2 h3]; simp [gsOk, gsG, h3]
    · simp [gsOk, gsG, h1, h2, h3]
  have HO : gsOut c o = (gsF (gsX c o)).1 := by
    cases h3 : finB single (al single o)
    · rw [gs_inf h1 h2 h3]; simp [gsOut, gsG, h3]
    · simp [gsOut, gsG, h1, h2, h3]
  have ho : (FloatKind.f32.format.order o 0 == some .gt) = true := h2
  rw [HG, HO]
  clear HG HO
  obtain ⟨G, hG⟩ := ex_eq (gsF (gsX c o))
  rw [hG]
  have HX := hide hG
  clear hG
  go_enter Try.func20, Try.ntmps20
  go_upto_region 3 with (first | (go_at_call 56; refine (isChance_any _ _).mono ?_; rintro e w' ⟨rfl, rfl⟩))
  obtain ⟨r1, n1, e1, a1⟩ := run_fop .add (.inl rfl) 25 .f32 o 1065353216 Try.prog w
  obtain ⟨r2, n2, e2, a2⟩ := run_fop .mul (.inr (.inr (.inl rfl))) 25 .f32 c r1 Try.prog (w.drewN (n1))
  rw [World.drewN_drewN] at e2
  obtain ⟨r3, n3, e3, a3⟩ := run_fop .sub (.inr (.inl rfl)) 25 .f32 r2 1065353216 Try.prog (w.drewN (n1 + n2))
  rw [World.drewN_drewN] at e3
  obtain ⟨r4, n4, e4, a4⟩ := run_fop .quo (.inr (.inr (.inr rfl))) 25 .f32 r3 o Try.prog (w.drewN (n1 + n2 + n3))
  rw [World.drewN_drewN] at e4
  rw [al_one] at a1 a3
  have aX : al single r4 = gsX c o := by
    show al FloatKind.f32.format r4 = _
    rw [a4, a3, a2, a1]
    rfl
  have HY := HX.out
  rw [← aX] at HY
  clear a1 a2 a3 a4 aX HX
  cases hl : ltzX (al single r4)
  · have hl' : (FloatKind.f32.format.order r4 0 == some .lt) = false := (ltz_al r4).trans hl
    have HE := hide (HY.symm.trans (gsF_pos hl))
    have HC := hide (fun V => checked_any r4 V)
    generalize finB single (al single r4) = F at HC HE
    clear hl HY
    cases F
    all_goals
      go_wp2_with fail
      refine (HC.out _).mono ?_
      rintro e w1 ⟨rfl, n, rfl⟩
      go_wp2
      go_ret2
      rw [HE.out]
      exact ⟨rfl, _, rfl⟩
  · have hl' : (FloatKind.f32.format.order r4 0 == some .lt) = true := (ltz_al r4).trans hl
    have HE := hide (HY.symm.trans (gsF_neg hl))
    have HC := hide (fun V => checked_any 0 V)
    rw [al_V zero_V, show finB single (some 0) = true from (by have := V_fin zero_V; rwa [al_V zero_V] at this)] at HC
    clear hl HY
    go_wp2_with fail
    refine (HC.out _).mono ?_
    rintro e w1 ⟨rfl, n, rfl⟩
    go_wp2
    go_ret2
    rw [HE.out]
    exact ⟨rfl, _, rfl⟩

end Go.Proofs.Ytlfffkjgepgcfaa.chance
