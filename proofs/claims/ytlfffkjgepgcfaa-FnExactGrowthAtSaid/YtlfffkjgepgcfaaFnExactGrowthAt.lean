/-
  The statement FnExactGrowthAt is proved: the Go function loop.example/g01401 laws.FnExactGrowthAt answers true for every input and leaves its arguments as they were. Conditions: none.
-/
import Derived.Test.YtlfffkjgepgcfaaRows
import Derived.WalkKit
import Derived.ProofKit
import Derived.OpenShut
import Derived.WalkLawsBesides
import Derived.Test.YtlfffkjgepgcfaaGa
import Derived.ChangeOld
import Derived.Below
import Derived.ShutString
namespace Go.Proofs.Ytlfffkjgepgcfaa.fnExactGrowthAt
open Go.ChangeShapes Go.WideShapes Go.ChangeAt Go.RowKit
set_option linter.unusedVariables false

open base mem fl chance
theorem own : ownKnob Try.prog.godebug = none := by kernel_rfl

set_option maxHeartbeats 2000000 in
theorem walk (a0 : Nat) (a1 : Nat) (a2 : Nat) (w0 : (Lit.float .f32 a0).wf = true) (w1 : (Lit.float .f32 a1).wf = true) (w2 : (Lit.float .f32 a2).wf = true) (w : World) :
    Calls Try.prog 6 #[.float .f32 a0, .float .f32 a1, .float .f32 a2] w fun e w' => e = .returned (.bool true) ∧ Below w.heap.size w w' := by
  have HS := hide (fun (V : World) => spec_GrowthAt a0 a1 a2 V)
  have HI := hide (fun (V : World) => impl_GrowthAt a0 a1 a2 V)
  obtain ⟨x, hx⟩ := gaOut_V a0 a1 a2
  generalize gaOut a0 a1 a2 = y0 at HS HI hx
  generalize gaOk a0 a1 a2 = y1 at HS HI
  obtain ⟨b2, z, hw, hz, _⟩ := wide_V hx
  have HW := hide (fun W => sameFloat_V hz W)
  have HC : ∀ w, (convert 25 29 (.float .f32 y0)).run Try.prog w = .ok (.float .f64 b2) w := fun w => run_convert_float_float (P := Try.prog) w 25 29 .f32 .f64 _ _ (by rw [Try.underlying25]; rfl) Try.underlying29 hw
  clear hw hz hx
  go_enter Try.func6, Try.ntmps6
  go_wp2_with fail
  refine (HS.out _).mono ?_
  rintro e v1 ⟨rfl, n1, rfl⟩
  go_wp2_with fail
  refine (HI.out _).mono ?_
  rintro e v2 ⟨rfl, n2, rfl⟩
  go_wp2_with fail
  refine (HW.out _).mono ?_
  rintro e v3 ⟨rfl, rfl⟩
  go_wp2
  go_ret
  exact ⟨rfl, bdrewN (Below.refl _ _) _⟩

set_option maxRecDepth 100000 in
theorem lifted (os : Os) (started : os.Started) (H : Type) (enc : TypeId × Value → H) :
    ReturnsInHanded {} Try.checked os 6 .any (Rows.fnExactGrowthAtSpec.pre6 enc Try.prog Try.f6 Rows.fnExactGrowthAtRow.domain false) (Rows.fnExactGrowthAtSpec.post enc Try.prog Try.f6 false true false false) := by
  refine returnsInHanded_of_change (C := Try.checked) own started (by kernel_rfl) Try.func6
    (ChangeSpec.witness6 (enc := enc) (C := Try.checked) false ⟨#[], #[.float .f32 0, .float .f32 0, .float .f32 0], []⟩ 8 (by kernel_rfl) (by kernel_rfl) (by kernel_rfl) (by kernel_rfl)) ?_
  intro W base args ds gs before hval0 hW hcnd _
  have hval : ∀ (j : Nat) t v, Try.f6.params[j]? = some t → args[j]? = some v → Value.okWide Try.prog W .any base t v := hval0
  have hW' := hW
  obtain ⟨p, q, hA0, hV, rfl, hfz, hnd⟩ := hW
  have hA : DataW.TrodAll enc Try.prog W 0 (fun _ => true) true Try.f6.params.toList args.toList ds p := hA0
  rw [Try.params6] at hA hval
  obtain ⟨v0, vs0, d0, ds0, p0, q0, hargs, rfl, rfl, h0, r0⟩ := trodAll_cons hA
  obtain ⟨v1, vs1, d1, ds1, p1, q1, rfl, rfl, rfl, h1, r1⟩ := trodAll_cons r0
  obtain ⟨v2, vs2, d2, ds2, p2, q2, rfl, rfl, rfl, h2, r2⟩ := trodAll_cons r1
  obtain ⟨rfl, rfl, rfl⟩ := trodAll_nil r2
  obtain rfl : args = #[v0, v1, v2] := by cases args; simp_all
  obtain ⟨rfl, rfl⟩ := trodVars_none hV
  obtain ⟨a0, rfl, rfl, rfl, w0⟩ := open_float Try.underlying25 (hval 0 25 v0 rfl rfl) h0
  obtain ⟨a1, rfl, rfl, rfl, w1⟩ := open_float Try.underlying25 (hval 1 25 v1 rfl rfl) h1
  obtain ⟨a2, rfl, rfl, rfl, w2⟩ := open_float Try.underlying25 (hval 2 25 v2 rfl rfl) h2
  clear hA0 hval0
  simp only [List.append_nil] at hW'
  refine (walk a0 a1 a2 w0 w1 w2 W).mono fun e W' ⟨he, hg⟩ => ?_
  subst he
  exact ⟨_, rfl, _, _, _, [], [], [], hW', (trodAll_cons_mk (shut_bool Try.underlying4 _) trodAll_mk0), (trodAll_cons_mk (shut_float Try.underlying25 w0) (trodAll_cons_mk (shut_float Try.underlying25 w1) (trodAll_cons_mk (shut_float Try.underlying25 w2) trodAll_mk0))), rfl, hg.frame _, fun h => by cases h⟩

theorem over : Rows.fnExactGrowthAtRow.holds Try.pinned (OpenSpec.ofChange Rows.fnExactGrowthAtSpec) :=
  OpenClaim.holds_of_wide 6 Try.f6 rfl rfl rfl rfl rfl rfl rfl ⟨rfl, rfl, rfl, rfl, rfl⟩ rfl rfl rfl rfl rfl (by kernel_rfl) Try.func6 (by kernel_rfl)
    (of_decide_eq_true (by kernel_rfl)) (by unfold Func.isWrapper; first | (rw [if_pos (by decide +kernel)]; kernel_rfl) | (rw [if_neg (by decide +kernel)]; exact ⟨rfl, rfl⟩))
    (fun os started H enc _ => lifted os started H enc)

theorem proved : Rows.FnExactGrowthAtSaid :=
  over
#print axioms proved
end Go.Proofs.Ytlfffkjgepgcfaa.fnExactGrowthAt
