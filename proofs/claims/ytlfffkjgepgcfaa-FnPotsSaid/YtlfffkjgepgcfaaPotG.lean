/-
  What FnPots asks of growth, for all chances and odds that it tries. Conditions: none.
-/
import Derived.Test.YtlfffkjgepgcfaaGa
namespace Go.Proofs.Ytlfffkjgepgcfaa.chance
open Go.RowKit
open base mem fl

open Ieee
def chW (k : Nat) : Nat := (floatBits .quo .f32 (floatOfInt .f32 (k : Int)) 1098907648).getD 0
def odW (j : Nat) : Nat := (floatBits .quo .f32 (floatOfInt .f32 (1 + (j : Int))) 1082130432).getD 0
def gapW (a b : Nat) : Option Nat := if double.order a b = some .lt then double.sub b a else double.sub a b
def c001 : Nat := 4562254508917369340
/-- the best share grows no slower than its half -/
def chkC (c o s : Nat) : Bool :=
  match gaX c o s, floatBits .quo .f32 s 1073741824 with
  | some b, some h => (match gaX c o h with
    | some l => finB single (some b) && (finB single (some l) && (gaG c o s && (gaG c o h && (match floatToFloatBits .f32 b .f64, floatToFloatBits .f32 l .f64 with
      | some b2, some l2 => (match double.sub l2 c001 with
        | some d => double.order b2 d == some .gt
        | none => false)
      | _, _ => false))))
    | none => false)
  | _, _ => false
/-- nothing at stake, in words, when the logarithm of 1 is 0 -/
def chkZ (c o : Nat) : Bool := gaG c o 0 && (gaA o 0 == some 1065353216 && (ao .add .f32 (ao .mul .f32 (al single c) (some 0)) (ao .mul .f32 (ao .sub .f32 (some 1065353216) (al single c)) (some 0)) == some 0))
def chkA (j k : Nat) : Bool :=
  (floatBits .quo .f32 (floatOfInt .f32 (k : Int)) 1098907648).isSome && ((floatBits .quo .f32 (floatOfInt .f32 (1 + (j : Int))) 1082130432).isSome &&
  (gsOk (chW k) (odW j) && (!(single.order (gsOut (chW k) (odW j)) 0 == some .lt) && (!(single.order (gsOut (chW k) (odW j)) 1065353216 == some .gt) &&
    (chkZ (chW k) (odW j) &&
    ((single.order (gsOut (chW k) (odW j)) 1065353216 == some .gt || single.order (gsOut (chW k) (odW j)) 1065353216 == some .eq) || (gsOut (chW k) (odW j) == 0 || chkC (chW k) (odW j) (gsOut (chW k) (odW j)))))))))
set_option maxRecDepth 100000 in
theorem chkA_0 : ∀ k : Fin 17, chkA 0 k = true := by decide +kernel
set_option maxRecDepth 100000 in
theorem chkA_1 : ∀ k : Fin 17, chkA 1 k = true := by decide +kernel
set_option maxRecDepth 100000 in
theorem chkA_2 : ∀ k : Fin 17, chkA 2 k = true := by decide +kernel
set_option maxRecDepth 100000 in
theorem chkA_3 : ∀ k : Fin 17, chkA 3 k = true := by decide +kernel
set_option maxRecDepth 100000 in
theorem chkA_4 : ∀ k : Fin 17, chkA 4 k = true := by decide +kernel
set_option maxRecDepth 100000 in
theorem chkA_5 : ∀ k : Fin 17, chkA 5 k = true := by decide +kernel
set_option maxRecDepth 100000 in
theorem chkA_6 : ∀ k : Fin 17, chkA 6 k = true := by decide +kernel
set_option maxRecDepth 100000 in
theorem chkA_7 : ∀ k : Fin 17, chkA 7 k = true := by decide +kernel
set_option maxRecDepth 100000 in
theorem chkA_8 : ∀ k : Fin 17, chkA 8 k = true := by decide +kernel
set_option maxRecDepth 100000 in
theorem chkA_9 : ∀ k : Fin 17, chkA 9 k = true := by decide +kernel
set_option maxRecDepth 100000 in
theorem chkA_10 : ∀ k : Fin 17, chkA 10 k = true := by decide +kernel
set_option maxRecDepth 100000 in
theorem chkA_11 : ∀ k : Fin 17, chkA 11 k = true := by decide +kernel
set_option maxRecDepth 100000 in
theorem chkA_12 : ∀ k : Fin 17, chkA 12 k = true := by decide +kernel
set_option maxRecDepth 100000 in
theorem chkA_13 : ∀ k : Fin 17, chkA 13 k = true := by decide +kernel
set_option maxRecDepth 100000 in
theorem chkA_14 : ∀ k : Fin 17, chkA 14 k = true := by decide +kernel
set_option maxRecDepth 100000 in
theorem chkA_15 : ∀ k : Fin 17, chkA 15 k = true := by decide +kernel
theorem chkA_all {j k : Nat} (hj : j < 16) (hk : k < 17) : chkA j k = true := by
  obtain rfl | rfl | rfl | rfl | rfl | rfl | rfl | rfl | rfl | rfl | rfl | rfl | rfl | rfl | rfl | rfl : j = 0 ∨ j = 1 ∨ j = 2 ∨ j = 3 ∨ j = 4 ∨ j = 5 ∨ j = 6 ∨ j = 7 ∨ j = 8 ∨ j = 9 ∨ j = 10 ∨ j = 11 ∨ j = 12 ∨ j = 13 ∨ j = 14 ∨ j = 15 := by omega
  · exact chkA_0 ⟨k, hk⟩
  · exact chkA_1 ⟨k, hk⟩
  · exact chkA_2 ⟨k, hk⟩
  · exact chkA_3 ⟨k, hk⟩
  · exact chkA_4 ⟨k, hk⟩
  · exact chkA_5 ⟨k, hk⟩
  · exact chkA_6 ⟨k, hk⟩
  · exact chkA_7 ⟨k, hk⟩
  · exact chkA_8 ⟨k, hk⟩
  · exact chkA_9 ⟨k, hk⟩
  · exact chkA_10 ⟨k, hk⟩
  · exact chkA_11 ⟨k, hk⟩
  · exact chkA_12 ⟨k, hk⟩
  · exact chkA_13 ⟨k, hk⟩
  · exact chkA_14 ⟨k, hk⟩
  · exact chkA_15 ⟨k, hk⟩
theorem log_one : lgW 1065353216 = 0 := by decide +kernel
theorem gaB_zero : gaB 0 = some 1065353216 := by decide +kernel
/-- nothing at stake does not grow -/
theorem gaX_zero {c o : Nat} (h : chkZ c o = true) : gaX c o 0 = some 0 ∧ gaOk c o 0 = true ∧ gaOut c o 0 = 0 := by
  unfold chkZ at h
  simp only [Bool.and_eq_true, beq_iff_eq] at h
  obtain ⟨h1, h2, h3⟩ := h
  have hX : gaX c o 0 = some 0 := by
    unfold gaX
    rw [h2, gaB_zero]
    unfold lgO
    rw [Option.map_some, log_one]
    exact h3
  have hk : gaOk c o 0 = true := by unfold gaOk; rw [h1, hX]; decide
  refine ⟨hX, hk, ?_⟩
  unfold gaOut
  rw [if_pos hk, hX]; rfl

end Go.Proofs.Ytlfffkjgepgcfaa.chance
