/-
  The statement FnExactPlaceChances is proved: the Go function loop.example/g01401 laws.FnExactPlaceChances answers true for every input and leaves its arguments as they were. Conditions: none.
  The frame around the walk was written by the kit's own skeleton program.
-/
import Derived.Test.YtlfffkjgepgcfaaRows
import Derived.WalkKit
import Derived.ProofKit
import Derived.OpenShut
import Derived.Test.YtlfffkjgepgcfaaPcI
import Derived.ShutString
import Derived.ChangeOld
import Derived.Below
namespace Go.Proofs.Ytlfffkjgepgcfaa.fnExactPlaceChances
open Go.ChangeShapes Go.WideShapes Go.ChangeAt Go.RowKit
open Go.ChangeMaps (open_string shut_string)
set_option linter.unusedVariables false

open base mem pl
theorem own : ownKnob Try.prog.godebug = none := by kernel_rfl
theorem laidOut : laidOutB Try.prog = true := by kernel_rfl

/-- WHAT THE WALK IS TOLD OF A SLICE OF INTEGERS THAT CAME IN: it is nil; or it leads to a row of 'cap' cells, the numbers 'zs' (the first 'len' are its elements, the rest its spare room), each fitting its kind. -/
def IsRow (k : IntKind) (w : World) (a : Option Addr) (len cap : Nat) (zs : List Int) : Prop :=
  (a = none ∧ len = 0 ∧ cap = 0 ∧ zs = []) ∨
  ∃ x, a = some x ∧ len ≤ cap ∧ cap ≤ maxLen ∧ zs.length = cap ∧ (∀ i, i < zs.length → w.cell? (x.add i) = some (.int k (zs.getD i 0))) ∧ ∀ n ∈ zs, (Lit.int k n).wf = true

/-! ### STEP 1: THE WALK: the Go text returns true, AND WRITES NOTHING THAT WAS THERE: 'Below w.heap.size w w'' (Derived/Below.lean: '.refl', '.alloc', '.drew', '.setCell' at a new block, '.trans'). Open each 'IsRow' by 'rcases' AHEAD of 'go_enter'; part every test ahead of the walk. -/
theorem walk (a0 : Option Addr) (len0 cap0 : Nat) (z0 : List Int) (w : World) (w0 : IsRow .i64 w a0 len0 cap0 z0) :
    Calls Try.prog 8 #[.slice a0 len0 cap0] w fun e w' => e = .returned (.bool true) ∧ Below w.heap.size w w' := by
  by_cases big0 : 1048576 < len0
  · clear w0
    go_enter Try.func8, Try.ntmps8
    go_wp2
    go_ret
    exact ⟨rfl, Below.refl _ _⟩
  have n0 : len0 ≤ 1048576 := by omega
  obtain ⟨r0, c0, _⟩ := rd_of_row w0
  generalize hx0 : z0.take len0 = x0 at r0
  clear w0 hx0
  have HS := hide (fun (A0 : Option Addr) (C0 : Nat) (V : World) (h0 : Rd V V.heap.size A0 len0 x0) (k0 : len0 ≤ C0) => spec_PlaceChances A0 len0 C0 x0 V h0 n0 k0)
  have HI := hide (fun (A0 : Option Addr) (C0 : Nat) (V : World) (h0 : Rd V V.heap.size A0 len0 x0) (k0 : len0 ≤ C0) => impl_PlaceChances A0 len0 C0 x0 V h0 n0 k0)
  have l0 : ((pcOut x0)).length ≤ 1048576 := (Nat.le_trans (pcOut_len x0) (by omega))
  have N0 : NumF ((pcOut x0)) := pcOut_num x0
  generalize (pcOut x0) = y0 at HS HI l0 N0
  generalize sqOk x0 = y1 at HS HI
  go_enter Try.func8, Try.ntmps8
  go_wp2_with fail
  refine (toI a0 len0 cap0 x0 _ (r0.more (by omega)) n0).mono ?_
  rintro e v1 ⟨Av1, Cv1, rfl, p0, bv1⟩
  have zv1 := bv1.size
  have tv1 := bv1
  have r0_v1 := r0.below (bv1.mono (by omega))
  clear r0
  clear bv1
  go_wp2_with fail
  refine (HS.out Av1 Cv1 _ (p0.rd (by omega)) p0.cap).mono ?_
  rintro e v2 ⟨Av2, Cv2, rfl, ov2, bv2⟩
  have sw := SegF.of ov2
  clear ov2
  have zv2 := bv2.size
  have tv2 := tv1.trans (bv2.mono tv1.size)
  clear tv1
  have r0_v2 := r0_v1.below (bv2.mono (by omega))
  clear r0_v1
  have p0_v2 := p0.below bv2 (by omega)
  clear p0
  clear bv2
  clear p0_v2
  go_wp2_with fail
  refine (toI a0 len0 cap0 x0 _ (r0_v2.more (by omega)) n0).mono ?_
  rintro e v3 ⟨Av3, Cv3, rfl, q0, bv3⟩
  have zv3 := bv3.size
  have tv3 := tv2.trans (bv3.mono tv2.size)
  clear tv2
  have r0_v3 := r0_v2.below (bv3.mono (by omega))
  clear r0_v2
  have sw_v3 := sw.below bv3 (by omega)
  clear sw
  clear bv3
  go_wp2_with fail
  refine (HI.out Av3 Cv3 _ (q0.rd (by omega)) q0.cap).mono ?_
  rintro e v4 ⟨Av4, Cv4, rfl, ov4, bv4⟩
  have sg := SegF.of ov4
  clear ov4
  have zv4 := bv4.size
  have tv4 := tv3.trans (bv4.mono tv3.size)
  clear tv3
  have r0_v4 := r0_v3.below (bv4.mono (by omega))
  clear r0_v3
  have sw_v4 := sw_v3.below bv4 (by omega)
  clear sw_v3
  have q0_v4 := q0.below bv4 (by omega)
  clear q0
  clear bv4
  go_wp2_with fail
  refine (eqF Av4 Av2 y0.length Cv4 Cv2 y0 _ (sg.rd (by omega)) (sw_v4.rd (by omega)) N0 l0).mono ?_
  rintro e v5 ⟨rfl, bv5⟩
  have zv5 := bv5.size
  have tv5 := tv4.trans (bv5.mono tv4.size)
  clear tv4
  have r0_v5 := r0_v4.below (bv5.mono (by omega))
  clear r0_v4
  have sw_v5 := sw_v4.below bv5 (by omega)
  clear sw_v4
  have q0_v5 := q0_v4.below bv5 (by omega)
  clear q0_v4
  have sg_v5 := sg.below bv5 (by omega)
  clear sg
  clear bv5
  go_wp2_with fail
  refine (toI a0 len0 cap0 x0 _ (r0_v5.more (by omega)) n0).mono ?_
  rintro e v6 ⟨Av6, Cv6, rfl, u0, bv6⟩
  have zv6 := bv6.size
  have tv6 := tv5.trans (bv6.mono tv5.size)
  clear tv5
  have r0_v6 := r0_v5.below (bv6.mono (by omega))
  clear r0_v5
  have sw_v6 := sw_v5.below bv6 (by omega)
  clear sw_v5
  have q0_v6 := q0_v5.below bv6 (by omega)
  clear q0_v5
  have sg_v6 := sg_v5.below bv6 (by omega)
  clear sg_v5
  clear bv6
  go_wp2_with fail
  refine (eqI Av3 Av6 len0 Cv3 Cv6 x0 _ (q0_v6.rd (by omega)) (u0.rd (by omega)) n0).mono ?_
  rintro e v7 ⟨rfl, bv7⟩
  have zv7 := bv7.size
  have tv7 := tv6.trans (bv7.mono tv6.size)
  clear tv6
  have r0_v7 := r0_v6.below (bv7.mono (by omega))
  clear r0_v6
  have sw_v7 := sw_v6.below bv7 (by omega)
  clear sw_v6
  have q0_v7 := q0_v6.below bv7 (by omega)
  clear q0_v6
  have sg_v7 := sg_v6.below bv7 (by omega)
  clear sg_v6
  have u0_v7 := u0.below bv7 (by omega)
  clear u0
  clear bv7
  clear u0_v7
  go_wp2_with fail
  refine (markI Av3 len0 Cv3 x0 _ v2.heap.size v3.heap.size q0_v7 (by omega) (1) n0 (by omega)).mono ?_
  rintro e v8 ⟨rfl, mv8, ⟨rowv8, gv8, hrv8⟩, bv8⟩
  have zv8 := bv8.size
  clear q0_v7
  have tv8 := tv7.trans (bv8.mono (by omega))
  clear tv7
  have r0_v8 := r0_v7.below (bv8.mono (by omega))
  clear r0_v7
  have sw_v8 := sw_v7.grown gv8 (fun k hk => by have := hrv8 k hk; omega)
  clear sw_v7
  have sg_v8 := sg_v7.grown gv8 (fun k hk => by have := hrv8 k hk; omega)
  clear sg_v7
  clear gv8 hrv8 bv8
  go_wp2_with fail
  refine (eqF Av4 Av2 y0.length Cv4 Cv2 y0 _ (sg_v8.rd (by omega)) (sw_v8.rd (by omega)) N0 l0).mono ?_
  rintro e v9 ⟨rfl, bv9⟩
  have zv9 := bv9.size
  have tv9 := tv8.trans (bv9.mono tv8.size)
  clear tv8
  have r0_v9 := r0_v8.below (bv9.mono (by omega))
  clear r0_v8
  have sw_v9 := sw_v8.below bv9 (by omega)
  clear sw_v8
  have sg_v9 := sg_v8.below bv9 (by omega)
  clear sg_v8
  have q0_v9 := mv8.below bv9 (by omega)
  clear mv8
  clear bv9
  go_wp2_with fail
  refine (markF Av4 y0.length Cv4 y0 _ v3.heap.size v4.heap.size sg_v9 (by omega) (1) l0 (by omega)).mono ?_
  rintro e v10 ⟨rfl, mv10, ⟨rowv10, gv10, hrv10⟩, bv10⟩
  have zv10 := bv10.size
  clear sg_v9
  have tv10 := tv9.trans (bv10.mono (by omega))
  clear tv9
  have r0_v10 := r0_v9.below (bv10.mono (by omega))
  clear r0_v9
  have sw_v10 := sw_v9.grown gv10 (fun k hk => by have := hrv10 k hk; omega)
  clear sw_v9
  have q0_v10 := q0_v9.grown gv10 (fun k hk => by have := hrv10 k hk; omega)
  clear q0_v9
  clear gv10 hrv10 bv10
  go_wp2_with fail
  refine (heldF Av4 y0.length Cv4 _ _ (1) (mv10.rd (Nat.le_refl _)) l0 (by omega)).mono ?_
  rintro e w' ⟨rfl, rfl⟩
  clear q0_v10
  go_wp2_with fail
  refine (toI a0 len0 cap0 x0 _ (r0_v10.more (by omega)) n0).mono ?_
  rintro e v11 ⟨Av11, Cv11, rfl, s0, bv11⟩
  have zv11 := bv11.size
  have tv11 := tv10.trans (bv11.mono tv10.size)
  clear tv10
  have r0_v11 := r0_v10.below (bv11.mono (by omega))
  clear r0_v10
  have sw_v11 := sw_v10.below bv11 (by omega)
  clear sw_v10
  have sg_v11 := mv10.below bv11 (by omega)
  clear mv10
  clear bv11
  go_wp2_with fail
  refine (HI.out Av11 Cv11 _ (s0.rd (by omega)) s0.cap).mono ?_
  rintro e v12 ⟨Av12, Cv12, rfl, ov12, bv12⟩
  have sh := SegF.of ov12
  clear ov12
  have zv12 := bv12.size
  have tv12 := tv11.trans (bv12.mono tv11.size)
  clear tv11
  have r0_v12 := r0_v11.below (bv12.mono (by omega))
  clear r0_v11
  have sw_v12 := sw_v11.below bv12 (by omega)
  clear sw_v11
  have sg_v12 := sg_v11.below bv12 (by omega)
  clear sg_v11
  have s0_v12 := s0.below bv12 (by omega)
  clear s0
  clear bv12
  go_wp2_with fail
  refine (eqF Av12 Av2 y0.length Cv12 Cv2 y0 _ (sh.rd (by omega)) (sw_v12.rd (by omega)) N0 l0).mono ?_
  rintro e v13 ⟨rfl, bv13⟩
  have zv13 := bv13.size
  have tv13 := tv12.trans (bv13.mono tv12.size)
  clear tv12
  have r0_v13 := r0_v12.below (bv13.mono (by omega))
  clear r0_v12
  have sw_v13 := sw_v12.below bv13 (by omega)
  clear sw_v12
  have sg_v13 := sg_v12.below bv13 (by omega)
  clear sg_v12
  have s0_v13 := s0_v12.below bv13 (by omega)
  clear s0_v12
  have sh_v13 := sh.below bv13 (by omega)
  clear sh
  clear bv13
  go_wp2_with fail
  refine (heldF Av4 y0.length Cv4 _ _ (1) (sg_v13.rd (Nat.le_refl _)) l0 (by omega)).mono ?_
  rintro e w' ⟨rfl, rfl⟩
  go_wp2
  go_ret
  exact ⟨rfl, tv13⟩

/-! ### THE ROW's STEP: WRITTEN OUT: LEAVE IT -/
set_option maxRecDepth 100000 in
theorem lifted (os : Os) (started : os.Started) (H : Type) (enc : TypeId × Value → H) :
    ReturnsInHanded {} Try.checked os 8 .any (Rows.fnExactPlaceChancesSpec.pre6 enc Try.prog Try.f8 Rows.fnExactPlaceChancesRow.domain false) (Rows.fnExactPlaceChancesSpec.post enc Try.prog Try.f8 false true false false) := by
  refine returnsInHanded_of_change (C := Try.checked) own started (by kernel_rfl) Try.func8
    (ChangeSpec.witness6 (enc := enc) (C := Try.checked) false ⟨#[], #[.slice none 0 0], []⟩ 8 (by kernel_rfl) (by kernel_rfl) (by kernel_rfl) (by kernel_rfl)) ?_
  intro W base args ds gs before hval0 hW hcnd _
  have hval : ∀ (j : Nat) t v, Try.f8.params[j]? = some t → args[j]? = some v → Value.okWide Try.prog W .any base t v := hval0
  have hW' := hW
  obtain ⟨p, q, hA0, hV, rfl, hfz, hnd⟩ := hW
  have hA : DataW.TrodAll enc Try.prog W 0 (fun _ => true) true Try.f8.params.toList args.toList ds p := hA0
  rw [Try.params8] at hA hval
  obtain ⟨v0, vs0, d0, ds0, p0, q0, hargs, rfl, rfl, h0, r0⟩ := trodAll_cons hA
  obtain ⟨rfl, rfl, rfl⟩ := trodAll_nil r0
  obtain rfl : args = #[v0] := by cases args; simp_all
  obtain ⟨rfl, rfl⟩ := trodVars_none hV
  obtain ⟨a0, len0, cap0, rfl⟩ := okWide_slice Try.underlying35 (hval 0 35 v0 rfl rfl)
  have k0 := h0
  have lt0 : ∀ x ∈ p0, x.block < W.heap.size := by obtain ⟨m, hm⟩ := k0; exact DataW.trod_lt m _ _ _ hm
  obtain ⟨z0, w0⟩ : ∃ zs, IsRow .i64 W a0 len0 cap0 zs := by
    obtain ⟨fuel, hf⟩ := h0
    rcases open_ints Try.underlying35 Try.underlying2 (by kernel_rfl) hf with ⟨hcs, _⟩ | ⟨x, l, c, zs, hcs, _, hl, hm, hz, _, hcell, hwz⟩
    · simp [Value.cells] at hcs
      obtain ⟨rfl, rfl, rfl⟩ := hcs
      exact ⟨[], .inl ⟨rfl, rfl, rfl, rfl⟩⟩
    · simp [Value.cells] at hcs
      obtain ⟨rfl, rfl, rfl⟩ := hcs
      exact ⟨zs, .inr ⟨_, rfl, hl, hm, by simpa using hz, hcell, hwz⟩⟩
  clear hA0 hval0
  refine (walk a0 len0 cap0 z0 W w0).mono fun e W' ⟨he, bel⟩ => ?_
  subst he
  exact ⟨_, rfl, _, _, _, [], _, [], hW', trodAll_mk1 (shut_bool Try.underlying4 _), (trodAll_cons_mk (Below.trod laidOut (by kernel_rfl) (of_decide_eq_true (by kernel_rfl)) k0 bel lt0) trodAll_mk0), rfl, bel.frame _, fun h => by cases h⟩

theorem over : Rows.fnExactPlaceChancesRow.holds Try.pinned (OpenSpec.ofChange Rows.fnExactPlaceChancesSpec) :=
  OpenClaim.holds_of_wide 8 Try.f8 rfl rfl rfl rfl rfl rfl rfl ⟨rfl, rfl, rfl, rfl, rfl⟩ rfl rfl rfl rfl rfl (by kernel_rfl) Try.func8 (by kernel_rfl)
    (of_decide_eq_true (by kernel_rfl)) (by unfold Func.isWrapper; first | (rw [if_pos (by decide +kernel)]; kernel_rfl) | (rw [if_neg (by decide +kernel)]; exact ⟨rfl, rfl⟩))
    (fun os started H enc _ => lifted os started H enc)

/-- ████ THE STATEMENT ████ -/
theorem proved : Rows.FnExactPlaceChancesSaid := over
#print axioms proved
end Go.Proofs.Ytlfffkjgepgcfaa.fnExactPlaceChances
