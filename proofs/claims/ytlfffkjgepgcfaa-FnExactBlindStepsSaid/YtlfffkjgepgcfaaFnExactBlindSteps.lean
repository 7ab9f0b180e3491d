/-
  The statement FnExactBlindSteps is proved: the Go function loop.example/g01401 laws.FnExactBlindSteps answers true for every input and leaves its arguments as they were. Conditions: none.
  The frame around the walk was written by the kit's own skeleton program.
-/
import Derived.Test.YtlfffkjgepgcfaaRows
import Derived.WalkKit
import Derived.ProofKit
import Derived.OpenShut
import Derived.Test.YtlfffkjgepgcfaaBlind
import Derived.ChangeOld
import Derived.Below
import Derived.ShutString
namespace Go.Proofs.Ytlfffkjgepgcfaa.fnExactBlindSteps
open Go.ChangeShapes Go.WideShapes Go.ChangeAt Go.RowKit
open Go.ChangeMaps (open_string shut_string)
set_option linter.unusedVariables false      -- a walk need not use every 'w<i>' (that an integer argument fits its kind)

open base mem chance
theorem own : ownKnob Try.prog.godebug = none := by kernel_rfl

/-! ### STEP 1: THE WALK: the Go text returns true. 'Grown w w'': the world has at most new blocks (Derived/RowKit3.lean). Part the cases AHEAD of 'go_enter' where a test parts the walk; take each callee by a contract of your own. -/
theorem walk (a0 : Int) (a1 : Int) (a2 : Int) (a3 : Int) (w0 : (Lit.int .i64 a0).wf = true) (w1 : (Lit.int .i64 a1).wf = true) (w2 : (Lit.int .i64 a2).wf = true) (w3 : (Lit.int .i64 a3).wf = true) (w : World) :
    Calls Try.prog 7 #[.int .i64 a0, .int .i64 a1, .int .i64 a2, .int .i64 a3] w fun e w' => e = .returned (.bool true) ∧ Below w.heap.size w w' := by
  have HS := hide (fun (V : World) => spec_BlindSteps a0 a1 a2 a3 V)
  have HI := hide (fun (V : World) => impl_BlindSteps a0 a1 a2 a3 V)
  have l0 : ((blOut a0 a1 a2 a3)).length ≤ 1048576 := blOut_len a0 a1 a2 a3
  generalize (blOut a0 a1 a2 a3) = y0 at HS HI l0
  generalize blOk a0 a1 a2 a3 = y1 at HS HI
  have tw : Below w.heap.size w w := Below.refl _ _
  clear tw
  go_enter Try.func7, Try.ntmps7
  go_wp2_with fail
  refine (HS.out  _ ).mono ?_
  rintro e v1 ⟨Av1, Cv1, rfl, ov1, bv1⟩
  have sw := Seg.of ov1
  clear ov1
  have zv1 := bv1.size
  have tv1 := bv1
  clear bv1
  go_wp2_with fail
  refine (HI.out  _ ).mono ?_
  rintro e v2 ⟨Av2, Cv2, rfl, ov2, bv2⟩
  have sg := Seg.of ov2
  clear ov2
  have zv2 := bv2.size
  have tv2 := tv1.trans (bv2.mono tv1.size)
  clear tv1
  have sw_v2 := sw.below bv2 (by omega)
  clear sw
  clear bv2
  go_wp2_with fail
  refine (eqI Av2 Av1 y0.length Cv2 Cv1 y0 _ (sg.rd (by omega)) (sw_v2.rd (by omega)) l0).mono ?_
  rintro e v3 ⟨rfl, bv3⟩
  have zv3 := bv3.size
  have tv3 := tv2.trans (bv3.mono tv2.size)
  clear tv2
  have sw_v3 := sw_v2.below bv3 (by omega)
  clear sw_v2
  have sg_v3 := sg.below bv3 (by omega)
  clear sg
  clear bv3
  go_wp2_with fail
  refine (markI Av2 y0.length Cv2 y0 _ v1.heap.size v2.heap.size sg_v3 (by omega) (1) l0 (by omega)).mono ?_
  rintro e v4 ⟨rfl, mv4, ⟨rowv4, gv4, hrv4⟩, bv4⟩
  have zv4 := bv4.size
  clear sg_v3
  have tv4 := tv3.trans (bv4.mono (by omega))
  clear tv3
  have sw_v4 := sw_v3.grown gv4 (fun k hk => by have := hrv4 k hk; omega)
  clear sw_v3
  clear gv4 hrv4 bv4
  go_wp2_with fail
  refine (heldI Av2 y0.length Cv2 _ _ (1) (mv4.rd (Nat.le_refl _)) l0 (by omega)).mono ?_
  rintro e w' ⟨rfl, rfl⟩
  go_wp2_with fail
  refine (HI.out  _ ).mono ?_
  rintro e v5 ⟨Av5, Cv5, rfl, ov5, bv5⟩
  have sh := Seg.of ov5
  clear ov5
  have zv5 := bv5.size
  have tv5 := tv4.trans (bv5.mono tv4.size)
  clear tv4
  have sw_v5 := sw_v4.below bv5 (by omega)
  clear sw_v4
  have sg_v5 := mv4.below bv5 (by omega)
  clear mv4
  clear bv5
  go_wp2_with fail
  refine (eqI Av5 Av1 y0.length Cv5 Cv1 y0 _ (sh.rd (by omega)) (sw_v5.rd (by omega)) l0).mono ?_
  rintro e v6 ⟨rfl, bv6⟩
  have zv6 := bv6.size
  have tv6 := tv5.trans (bv6.mono tv5.size)
  clear tv5
  have sw_v6 := sw_v5.below bv6 (by omega)
  clear sw_v5
  have sg_v6 := sg_v5.below bv6 (by omega)
  clear sg_v5
  have sh_v6 := sh.below bv6 (by omega)
  clear sh
  clear bv6
  go_wp2_with fail
  refine (heldI Av2 y0.length Cv2 _ _ (1) (sg_v6.rd (Nat.le_refl _)) l0 (by omega)).mono ?_
  rintro e w' ⟨rfl, rfl⟩
  go_wp2
  go_ret
  exact ⟨rfl, tv6⟩

/-! ### THE ROW's STEP: WRITTEN OUT: LEAVE IT -/
set_option maxRecDepth 100000 in
theorem lifted (os : Os) (started : os.Started) (H : Type) (enc : TypeId × Value → H) :
    ReturnsInHanded {} Try.checked os 7 .any (Rows.fnExactBlindStepsSpec.pre6 enc Try.prog Try.f7 Rows.fnExactBlindStepsRow.domain false) (Rows.fnExactBlindStepsSpec.post enc Try.prog Try.f7 false true false false) := by
  refine returnsInHanded_of_change (C := Try.checked) own started (by kernel_rfl) Try.func7
    (ChangeSpec.witness6 (enc := enc) (C := Try.checked) false ⟨#[], #[.int .i64 0, .int .i64 0, .int .i64 0, .int .i64 0], []⟩ 8 (by kernel_rfl) (by kernel_rfl) (by kernel_rfl) (by kernel_rfl)) ?_
  intro W base args ds gs before hval0 hW hcnd _
  have hval : ∀ (j : Nat) t v, Try.f7.params[j]? = some t → args[j]? = some v → Value.okWide Try.prog W .any base t v := hval0
  have hW' := hW
  obtain ⟨p, q, hA0, hV, rfl, hfz, hnd⟩ := hW
  have hA : DataW.TrodAll enc Try.prog W 0 (fun _ => true) true Try.f7.params.toList args.toList ds p := hA0
  rw [Try.params7] at hA hval
  obtain ⟨v0, vs0, d0, ds0, p0, q0, hargs, rfl, rfl, h0, r0⟩ := trodAll_cons hA
  obtain ⟨v1, vs1, d1, ds1, p1, q1, rfl, rfl, rfl, h1, r1⟩ := trodAll_cons r0
  obtain ⟨v2, vs2, d2, ds2, p2, q2, rfl, rfl, rfl, h2, r2⟩ := trodAll_cons r1
  obtain ⟨v3, vs3, d3, ds3, p3, q3, rfl, rfl, rfl, h3, r3⟩ := trodAll_cons r2
  obtain ⟨rfl, rfl, rfl⟩ := trodAll_nil r3
  obtain rfl : args = #[v0, v1, v2, v3] := by cases args; simp_all
  obtain ⟨rfl, rfl⟩ := trodVars_none hV
  obtain ⟨a0, rfl, rfl, rfl, w0⟩ := open_int Try.underlying2 (hval 0 2 v0 rfl rfl) h0
  obtain ⟨a1, rfl, rfl, rfl, w1⟩ := open_int Try.underlying2 (hval 1 2 v1 rfl rfl) h1
  obtain ⟨a2, rfl, rfl, rfl, w2⟩ := open_int Try.underlying2 (hval 2 2 v2 rfl rfl) h2
  obtain ⟨a3, rfl, rfl, rfl, w3⟩ := open_int Try.underlying2 (hval 3 2 v3 rfl rfl) h3
  clear hA0 hval0
  simp only [List.append_nil] at hW'
  refine (walk a0 a1 a2 a3 w0 w1 w2 w3 W).mono fun e W' ⟨he, hg⟩ => ?_
  subst he
  exact ⟨_, rfl, _, _, _, [], [], [], hW', (trodAll_cons_mk (shut_bool Try.underlying4 _) trodAll_mk0), (trodAll_cons_mk (shut_int Try.underlying2 w0) (trodAll_cons_mk (shut_int Try.underlying2 w1) (trodAll_cons_mk (shut_int Try.underlying2 w2) (trodAll_cons_mk (shut_int Try.underlying2 w3) trodAll_mk0)))), rfl, hg.frame _, fun h => by cases h⟩

theorem over : Rows.fnExactBlindStepsRow.holds Try.pinned (OpenSpec.ofChange Rows.fnExactBlindStepsSpec) :=
  OpenClaim.holds_of_wide 7 Try.f7 rfl rfl rfl rfl rfl rfl rfl ⟨rfl, rfl, rfl, rfl, rfl⟩ rfl rfl rfl rfl rfl (by kernel_rfl) Try.func7 (by kernel_rfl)
    (of_decide_eq_true (by kernel_rfl)) (by unfold Func.isWrapper; first | (rw [if_pos (by decide +kernel)]; kernel_rfl) | (rw [if_neg (by decide +kernel)]; exact ⟨rfl, rfl⟩))
    (fun os started H enc _ => lifted os started H enc)

/-- ████ THE STATEMENT ████ -/
theorem proved : Rows.FnExactBlindStepsSaid :=
  over
#print axioms proved
end Go.Proofs.Ytlfffkjgepgcfaa.fnExactBlindSteps
