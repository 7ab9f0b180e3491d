/-
  The statement FnExactDecksShared is proved: the Go function loop.example/g01401 laws.FnExactDecksShared answers true for every input and leaves its arguments as they were. Conditions: none.
  The frame around the walk was written by the kit's own skeleton program.
-/
import Derived.Test.YtbihcffedlfobaaRows
import Derived.WalkKit
import Derived.ProofKit
import Derived.OpenShut
import Derived.Test.YtbihcffedlfobaaLaw
import Derived.Test.YtbihcffedlfobaaShared
import Derived.ShutString
import Derived.ChangeOld
import Derived.Below
namespace Go.Proofs.Ytbihcffedlfobaa.fnExactDecksShared
open Go.ChangeShapes Go.WideShapes Go.ChangeAt Go.RowKit
open Go.ChangeMaps (open_string shut_string)
set_option linter.unusedVariables false

open base mem deck
theorem own : ownKnob Try.prog.godebug = none := by kernel_rfl
theorem laidOut : laidOutB Try.prog = true := by kernel_rfl

/-- WHAT THE WALK IS TOLD OF A SLICE OF INTEGERS THAT CAME IN: it is nil; or it leads to a row of 'cap' cells, the numbers 'zs' (the first 'len' are its elements, the rest its spare room), each fitting its kind. -/
def IsRow (k : IntKind) (w : World) (a : Option Addr) (len cap : Nat) (zs : List Int) : Prop :=
  (a = none ∧ len = 0 ∧ cap = 0 ∧ zs = []) ∨
  ∃ x, a = some x ∧ len ≤ cap ∧ cap ≤ maxLen ∧ zs.length = cap ∧ (∀ i, i < zs.length → w.cell? (x.add i) = some (.int k (zs.getD i 0))) ∧ ∀ n ∈ zs, (Lit.int k n).wf = true

/-! ### STEP 1: THE WALK: the Go text returns true, AND WRITES NOTHING THAT WAS THERE: 'Below w.heap.size w w'' (Derived/Below.lean: '.refl', '.alloc', '.drew', '.setCell' at a new block, '.trans'). Open each 'IsRow' by 'rcases' AHEAD of 'go_enter'; part every test ahead of the walk. -/
theorem walk (a0 : Int) (a1 : Option Addr) (len1 cap1 : Nat) (z1 : List Int) (a2 : Int) (w : World) (w0 : (Lit.int .i64 a0).wf = true) (w1 : IsRow .i64 w a1 len1 cap1 z1) (w2 : (Lit.int .i64 a2).wf = true) :
    Calls Try.prog 14 #[.int .i64 a0, .slice a1 len1 cap1, .int .i64 a2] w fun e w' => e = .returned (.bool true) ∧ Below w.heap.size w w' := by
  by_cases big1 : 1048576 < len1
  · clear w1
    go_enter Try.func14, Try.ntmps14
    go_wp2
    go_ret
    exact ⟨rfl, Below.refl _ _⟩
  have n1 : len1 ≤ 1048576 := by omega
  obtain ⟨r1, c1, _⟩ := rd_of_row w1
  generalize hx1 : z1.take len1 = x1 at r1
  clear w1 hx1
  have HS := hide (fun (A1 : Option Addr) (C1 : Nat) (V : World) (h1 : Rd V V.heap.size A1 len1 x1) (k1 : len1 ≤ C1) => spec_DecksShared a0 A1 len1 C1 x1 a2 V h1 n1 k1)
  have HI := hide (fun (A1 : Option Addr) (C1 : Nat) (V : World) (h1 : Rd V V.heap.size A1 len1 x1) (k1 : len1 ≤ C1) => impl_DecksShared a0 A1 len1 C1 x1 a2 V h1 n1 k1)
  have l0 : ((sharedOut a0 x1 a2)).length ≤ 1048576 := sharedOut_len a0 x1 a2
  generalize (sharedOut a0 x1 a2) = y0 at HS HI l0
  generalize sharedOk a0 x1 a2 = y1 at HS HI
  go_enter Try.func14, Try.ntmps14
  go_wp2_with fail
  refine (toI a1 len1 cap1 x1 _ (r1.more (by omega)) n1).mono ?_
  rintro e v1 ⟨Av1, Cv1, rfl, p1, bv1⟩
  have zv1 := bv1.size
  have tv1 := bv1
  have r1_v1 := r1.below (bv1.mono (by omega))
  clear r1
  clear bv1
  go_wp2_with fail
  refine (HS.out Av1 Cv1 _ (p1.rd (by omega)) p1.cap).mono ?_
  rintro e v2 ⟨Av2, Cv2, rfl, ov2, bv2⟩
  have sw := Seg.of ov2
  clear ov2
  have zv2 := bv2.size
  have tv2 := tv1.trans (bv2.mono tv1.size)
  clear tv1
  have r1_v2 := r1_v1.below (bv2.mono (by omega))
  clear r1_v1
  have p1_v2 := p1.below bv2 (by omega)
  clear p1
  clear bv2
  clear p1_v2
  go_wp2_with fail
  refine (toI a1 len1 cap1 x1 _ (r1_v2.more (by omega)) n1).mono ?_
  rintro e v3 ⟨Av3, Cv3, rfl, q1, bv3⟩
  have zv3 := bv3.size
  have tv3 := tv2.trans (bv3.mono tv2.size)
  clear tv2
  have r1_v3 := r1_v2.below (bv3.mono (by omega))
  clear r1_v2
  have sw_v3 := sw.below bv3 (by omega)
  clear sw
  clear bv3
  go_wp2_with fail
  refine (HI.out Av3 Cv3 _ (q1.rd (by omega)) q1.cap).mono ?_
  rintro e v4 ⟨Av4, Cv4, rfl, ov4, bv4⟩
  have sg := Seg.of ov4
  clear ov4
  have zv4 := bv4.size
  have tv4 := tv3.trans (bv4.mono tv3.size)
  clear tv3
  have r1_v4 := r1_v3.below (bv4.mono (by omega))
  clear r1_v3
  have sw_v4 := sw_v3.below bv4 (by omega)
  clear sw_v3
  have q1_v4 := q1.below bv4 (by omega)
  clear q1
  clear bv4
  go_wp2_with fail
  refine (eqI Av4 Av2 y0.length Cv4 Cv2 y0 _ (sg.rd (by omega)) (sw_v4.rd (by omega)) l0).mono ?_
  rintro e v5 ⟨rfl, bv5⟩
  have zv5 := bv5.size
  have tv5 := tv4.trans (bv5.mono tv4.size)
  clear tv4
  have r1_v5 := r1_v4.below (bv5.mono (by omega))
  clear r1_v4
  have sw_v5 := sw_v4.below bv5 (by omega)
  clear sw_v4
  have q1_v5 := q1_v4.below bv5 (by omega)
  clear q1_v4
  have sg_v5 := sg.below bv5 (by omega)
  clear sg
  clear bv5
  go_wp2_with fail
  refine (toI a1 len1 cap1 x1 _ (r1_v5.more (by omega)) n1).mono ?_
  rintro e v6 ⟨Av6, Cv6, rfl, u1, bv6⟩
  have zv6 := bv6.size
  have tv6 := tv5.trans (bv6.mono tv5.size)
  clear tv5
  have r1_v6 := r1_v5.below (bv6.mono (by omega))
  clear r1_v5
  have sw_v6 := sw_v5.below bv6 (by omega)
  clear sw_v5
  have q1_v6 := q1_v5.below bv6 (by omega)
  clear q1_v5
  have sg_v6 := sg_v5.below bv6 (by omega)
  clear sg_v5
  clear bv6
  go_wp2_with fail
  refine (eqI Av3 Av6 len1 Cv3 Cv6 x1 _ (q1_v6.rd (by omega)) (u1.rd (by omega)) n1).mono ?_
  rintro e v7 ⟨rfl, bv7⟩
  have zv7 := bv7.size
  have tv7 := tv6.trans (bv7.mono tv6.size)
  clear tv6
  have r1_v7 := r1_v6.below (bv7.mono (by omega))
  clear r1_v6
  have sw_v7 := sw_v6.below bv7 (by omega)
  clear sw_v6
  have q1_v7 := q1_v6.below bv7 (by omega)
  clear q1_v6
  have sg_v7 := sg_v6.below bv7 (by omega)
  clear sg_v6
  have u1_v7 := u1.below bv7 (by omega)
  clear u1
  clear bv7
  clear u1_v7
  go_wp2_with fail
  refine (markI Av3 len1 Cv3 x1 _ v2.heap.size v3.heap.size q1_v7 (by omega) (1) n1 (by omega)).mono ?_
  rintro e v8 ⟨rfl, mv8, ⟨rowv8, gv8, hrv8⟩, bv8⟩
  have zv8 := bv8.size
  clear q1_v7
  have tv8 := tv7.trans (bv8.mono (by omega))
  clear tv7
  have r1_v8 := r1_v7.below (bv8.mono (by omega))
  clear r1_v7
  have sw_v8 := sw_v7.grown gv8 (fun k hk => by have := hrv8 k hk; omega)
  clear sw_v7
  have sg_v8 := sg_v7.grown gv8 (fun k hk => by have := hrv8 k hk; omega)
  clear sg_v7
  clear gv8 hrv8 bv8
  go_wp2_with fail
  refine (eqI Av4 Av2 y0.length Cv4 Cv2 y0 _ (sg_v8.rd (by omega)) (sw_v8.rd (by omega)) l0).mono ?_
  rintro e v9 ⟨rfl, bv9⟩
  have zv9 := bv9.size
  have tv9 := tv8.trans (bv9.mono tv8.size)
  clear tv8
  have r1_v9 := r1_v8.below (bv9.mono (by omega))
  clear r1_v8
  have sw_v9 := sw_v8.below bv9 (by omega)
  clear sw_v8
  have sg_v9 := sg_v8.below bv9 (by omega)
  clear sg_v8
  have q1_v9 := mv8.below bv9 (by omega)
  clear mv8
  clear bv9
  go_wp2_with fail
  refine (markI Av4 y0.length Cv4 y0 _ v3.heap.size v4.heap.size sg_v9 (by omega) (1) l0 (by omega)).mono ?_
  rintro e v10 ⟨rfl, mv10, ⟨rowv10, gv10, hrv10⟩, bv10⟩
  have zv10 := bv10.size
  clear sg_v9
  have tv10 := tv9.trans (bv10.mono (by omega))
  clear tv9
  have r1_v10 := r1_v9.below (bv10.mono (by omega))
  clear r1_v9
  have sw_v10 := sw_v9.grown gv10 (fun k hk => by have := hrv10 k hk; omega)
  clear sw_v9
  have q1_v10 := q1_v9.grown gv10 (fun k hk => by have := hrv10 k hk; omega)
  clear q1_v9
  clear gv10 hrv10 bv10
  go_wp2_with fail
  refine (heldI Av4 y0.length Cv4 _ _ (1) (mv10.rd (Nat.le_refl _)) l0 (by omega)).mono ?_
  rintro e w' ⟨rfl, rfl⟩
  clear q1_v10
  go_wp2_with fail
  refine (toI a1 len1 cap1 x1 _ (r1_v10.more (by omega)) n1).mono ?_
  rintro e v11 ⟨Av11, Cv11, rfl, s1, bv11⟩
  have zv11 := bv11.size
  have tv11 := tv10.trans (bv11.mono tv10.size)
  clear tv10
  have r1_v11 := r1_v10.below (bv11.mono (by omega))
  clear r1_v10
  have sw_v11 := sw_v10.below bv11 (by omega)
  clear sw_v10
  have sg_v11 := mv10.below bv11 (by omega)
  clear mv10
  clear bv11
  go_wp2_with fail
  refine (HI.out Av11 Cv11 _ (s1.rd (by omega)) s1.cap).mono ?_
  rintro e v12 ⟨Av12, Cv12, rfl, ov12, bv12⟩
  have sh := Seg.of ov12
  clear ov12
  have zv12 := bv12.size
  have tv12 := tv11.trans (bv12.mono tv11.size)
  clear tv11
  have r1_v12 := r1_v11.below (bv12.mono (by omega))
  clear r1_v11
  have sw_v12 := sw_v11.below bv12 (by omega)
  clear sw_v11
  have sg_v12 := sg_v11.below bv12 (by omega)
  clear sg_v11
  have s1_v12 := s1.below bv12 (by omega)
  clear s1
  clear bv12
  go_wp2_with fail
  refine (eqI Av12 Av2 y0.length Cv12 Cv2 y0 _ (sh.rd (by omega)) (sw_v12.rd (by omega)) l0).mono ?_
  rintro e v13 ⟨rfl, bv13⟩
  have zv13 := bv13.size
  have tv13 := tv12.trans (bv13.mono tv12.size)
  clear tv12
  have r1_v13 := r1_v12.below (bv13.mono (by omega))
  clear r1_v12
  have sw_v13 := sw_v12.below bv13 (by omega)
  clear sw_v12
  have sg_v13 := sg_v12.below bv13 (by omega)
  clear sg_v12
  have s1_v13 := s1_v12.below bv13 (by omega)
  clear s1_v12
  have sh_v13 := sh.below bv13 (by omega)
  clear sh
  clear bv13
  go_wp2_with fail
  refine (heldI Av4 y0.length Cv4 _ _ (1) (sg_v13.rd (Nat.le_refl _)) l0 (by omega)).mono ?_
  rintro e w' ⟨rfl, rfl⟩
  go_wp2
  go_ret
  exact ⟨rfl, tv13⟩

/-! ### THE ROW's STEP: WRITTEN OUT: LEAVE IT -/
set_option maxRecDepth 100000 in
theorem lifted (os : Os) (started : os.Started) (H : Type) (enc : TypeId × Value → H) :
    ReturnsInHanded {} Try.checked os 14 .any (Rows.fnExactDecksSharedSpec.pre6 enc Try.prog Try.f14 Rows.fnExactDecksSharedRow.domain false) (Rows.fnExactDecksSharedSpec.post enc Try.prog Try.f14 false true false false) := by
  refine returnsInHanded_of_change (C := Try.checked) own started (by kernel_rfl) Try.func14
    (ChangeSpec.witness6 (enc := enc) (C := Try.checked) false ⟨#[], #[.int .i64 0, .slice none 0 0, .int .i64 0], []⟩ 8 (by kernel_rfl) (by kernel_rfl) (by kernel_rfl) (by kernel_rfl)) ?_
  intro W base args ds gs before hval0 hW hcnd _
  have hval : ∀ (j : Nat) t v, Try.f14.params[j]? = some t → args[j]? = some v → Value.okWide Try.prog W .any base t v := hval0
  have hW' := hW
  obtain ⟨p, q, hA0, hV, rfl, hfz, hnd⟩ := hW
  have hA : DataW.TrodAll enc Try.prog W 0 (fun _ => true) true Try.f14.params.toList args.toList ds p := hA0
  rw [Try.params14] at hA hval
  obtain ⟨v0, vs0, d0, ds0, p0, q0, hargs, rfl, rfl, h0, r0⟩ := trodAll_cons hA
  obtain ⟨v1, vs1, d1, ds1, p1, q1, rfl, rfl, rfl, h1, r1⟩ := trodAll_cons r0
  obtain ⟨v2, vs2, d2, ds2, p2, q2, rfl, rfl, rfl, h2, r2⟩ := trodAll_cons r1
  obtain ⟨rfl, rfl, rfl⟩ := trodAll_nil r2
  obtain rfl : args = #[v0, v1, v2] := by cases args; simp_all
  obtain ⟨rfl, rfl⟩ := trodVars_none hV
  obtain ⟨a0, rfl, rfl, rfl, w0⟩ := open_int Try.underlying2 (hval 0 2 v0 rfl rfl) h0
  obtain ⟨a1, len1, cap1, rfl⟩ := okWide_slice Try.underlying22 (hval 1 22 v1 rfl rfl)
  have k1 := h1
  have lt1 : ∀ x ∈ p1, x.block < W.heap.size := by obtain ⟨m, hm⟩ := k1; exact DataW.trod_lt m _ _ _ hm
  obtain ⟨z1, w1⟩ : ∃ zs, IsRow .i64 W a1 len1 cap1 zs := by
    obtain ⟨fuel, hf⟩ := h1
    rcases open_ints Try.underlying22 Try.underlying2 (by kernel_rfl) hf with ⟨hcs, _⟩ | ⟨x, l, c, zs, hcs, _, hl, hm, hz, _, hcell, hwz⟩
    · simp [Value.cells] at hcs
      obtain ⟨rfl, rfl, rfl⟩ := hcs
      exact ⟨[], .inl ⟨rfl, rfl, rfl, rfl⟩⟩
    · simp [Value.cells] at hcs
      obtain ⟨rfl, rfl, rfl⟩ := hcs
      exact ⟨zs, .inr ⟨_, rfl, hl, hm, by simpa using hz, hcell, hwz⟩⟩
  obtain ⟨a2, rfl, rfl, rfl, w2⟩ := open_int Try.underlying2 (hval 2 2 v2 rfl rfl) h2
  clear hA0 hval0
  refine (walk a0 a1 len1 cap1 z1 a2 W w0 w1 w2).mono fun e W' ⟨he, bel⟩ => ?_
  subst he
  exact ⟨_, rfl, _, _, _, [], _, [], hW', trodAll_mk1 (shut_bool Try.underlying4 _), (trodAll_cons_mk (shut_int Try.underlying2 w0) (trodAll_cons_mk (Below.trod laidOut (by kernel_rfl) (of_decide_eq_true (by kernel_rfl)) k1 bel lt1) (trodAll_cons_mk (shut_int Try.underlying2 w2) trodAll_mk0))), rfl, bel.frame _, fun h => by cases h⟩

theorem over : Rows.fnExactDecksSharedRow.holds Try.pinned (OpenSpec.ofChange Rows.fnExactDecksSharedSpec) :=
  OpenClaim.holds_of_wide 14 Try.f14 rfl rfl rfl rfl rfl rfl rfl ⟨rfl, rfl, rfl, rfl, rfl⟩ rfl rfl rfl rfl rfl (by kernel_rfl) Try.func14 (by kernel_rfl)
    (of_decide_eq_true (by kernel_rfl)) (by unfold Func.isWrapper; first | (rw [if_pos (by decide +kernel)]; kernel_rfl) | (rw [if_neg (by decide +kernel)]; exact ⟨rfl, rfl⟩))
    (fun os started H enc _ => lifted os started H enc)

/-- ████ THE STATEMENT ████ -/
theorem proved : Rows.FnExactDecksSharedSaid := over
#print axioms proved
end Go.Proofs.Ytbihcffedlfobaa.fnExactDecksShared
