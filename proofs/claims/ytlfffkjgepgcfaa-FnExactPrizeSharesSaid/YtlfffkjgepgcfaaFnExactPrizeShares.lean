/-
  The statement FnExactPrizeShares is proved: the Go function loop.example/g01401 laws.FnExactPrizeShares answers true for every input and leaves its arguments as they were. Conditions: none.
  The frame around the walk was written by the kit's own skeleton program.
-/
import Derived.Test.YtlfffkjgepgcfaaRows
import Derived.WalkKit
import Derived.ProofKit
import Derived.OpenShut
import Derived.Test.YtlfffkjgepgcfaaPzS
import Derived.Test.YtlfffkjgepgcfaaPzI
import Derived.ShutString
import Derived.ChangeOld
import Derived.Below
namespace Go.Proofs.Ytlfffkjgepgcfaa.fnExactPrizeShares
open Go.ChangeShapes Go.WideShapes Go.ChangeAt Go.RowKit
open Go.ChangeMaps (open_string shut_string)
set_option linter.unusedVariables false

open base mem pl
theorem own : ownKnob Try.prog.godebug = none := by kernel_rfl
theorem laidOut : laidOutB Try.prog = true := by kernel_rfl

/-- WHAT THE WALK IS TOLD OF A SLICE OF INTEGERS THAT CAME IN: it is nil; or it leads to a row of 'cap' cells, the numbers 'zs' (the first 'len' are its elements, the rest its spare room), each fitting its kind. -/
def IsRow (k : IntKind) (w : World) (a : Option Addr) (len cap : Nat) (zs : List Int) : Prop :=
  (a = none ∧ len = 0 ∧ cap = 0 ∧ zs = []) ∨
  ∃ x, a = some x ∧ len ≤ cap ∧ cap ≤ maxLen ∧ zs.length = cap ∧ (∀ i, i < zs.length → w.cell? (x.add i) = some (.int k (zs.getD i 0))) ∧ ∀ n ∈ zs, (Lit.int k n).wf = true

/-! ### STEP 1: THE WALK: the Go text returns true, AND WRITES NOTHING THAT WAS THERE: 'Below w.heap.size w w'' (Derived/Below.lean: '.refl', '.alloc', '.drew', '.setCell' at a new block, '.trans'). Open each 'IsRow' by 'rcases' AHEAD of 'go_enter'; part every test ahead of the walk. -/
theorem walk (a0 : Option Addr) (len0 cap0 : Nat) (z0 : List Int) (a1 : Option Addr) (len1 cap1 : Nat) (z1 : List Int) (w : World) (w0 : IsRow .i64 w a0 len0 cap0 z0) (w1 : IsRow .i64 w a1 len1 cap1 z1) :
    Calls Try.prog 9 #[.slice a0 len0 cap0, .slice a1 len1 cap1] w fun e w' => e = .returned (.bool true) ∧ Below w.heap.size w w' := by
  by_cases big0 : 1048576 < len0
  · clear w0 w1
    go_enter Try.func9, Try.ntmps9
    go_wp2
    go_ret
    exact ⟨rfl, Below.refl _ _⟩
  have n0 : len0 ≤ 1048576 := by omega
  by_cases big1 : 1048576 < len1
  · clear w0 w1
    go_enter Try.func9, Try.ntmps9
    go_wp2
    go_ret
    exact ⟨rfl, Below.refl _ _⟩
  have n1 : len1 ≤ 1048576 := by omega
  obtain ⟨r0, c0, _⟩ := rd_of_row w0
  generalize hx0 : z0.take len0 = x0 at r0
  clear w0 hx0
  obtain ⟨r1, c1, _⟩ := rd_of_row w1
  generalize hx1 : z1.take len1 = x1 at r1
  clear w1 hx1
  have HS := hide (fun (A0 : Option Addr) (C0 : Nat) (A1 : Option Addr) (C1 : Nat) (V : World) (h0 : Rd V V.heap.size A0 len0 x0) (k0 : len0 ≤ C0) (h1 : Rd V V.heap.size A1 len1 x1) (k1 : len1 ≤ C1) => spec_PrizeShares A0 len0 C0 x0 A1 len1 C1 x1 V h0 n0 k0 h1 n1 k1)
  have HI := hide (fun (A0 : Option Addr) (C0 : Nat) (A1 : Option Addr) (C1 : Nat) (V : World) (h0 : Rd V V.heap.size A0 len0 x0) (k0 : len0 ≤ C0) (h1 : Rd V V.heap.size A1 len1 x1) (k1 : len1 ≤ C1) => impl_PrizeShares A0 len0 C0 x0 A1 len1 C1 x1 V h0 n0 k0 h1 n1 k1)
  have l0 : ((psOut x0 x1)).length ≤ 1048576 := (Nat.le_trans (psOut_len x0 x1) (by omega))
  have N0 : NumF ((psOut x0 x1)) := psOut_num x0 x1
  generalize (psOut x0 x1) = y0 at HS HI l0 N0
  generalize psOk x0 x1 = y1 at HS HI
  go_enter Try.func9, Try.ntmps9
  go_wp2_with fail
  refine (toI a0 len0 cap0 x0 _ (r0.more (by omega)) n0).mono ?_
  rintro e v1 ⟨Av1, Cv1, rfl, p0, bv1⟩
  have zv1 := bv1.size
  have tv1 := bv1
  have r0_v1 := r0.below (bv1.mono (by omega))
  clear r0
  have r1_v1 := r1.below (bv1.mono (by omega))
  clear r1
  clear bv1
  go_wp2_with fail
  refine (toI a1 len1 cap1 x1 _ (r1_v1.more (by omega)) n1).mono ?_
  rintro e v2 ⟨Av2, Cv2, rfl, p1, bv2⟩
  have zv2 := bv2.size
  have tv2 := tv1.trans (bv2.mono tv1.size)
  clear tv1
  have r0_v2 := r0_v1.below (bv2.mono (by omega))
  clear r0_v1
  have r1_v2 := r1_v1.below (bv2.mono (by omega))
  clear r1_v1
  have p0_v2 := p0.below bv2 (by omega)
  clear p0
  clear bv2
  go_wp2_with fail
  refine (HS.out Av1 Cv1 Av2 Cv2 _ (p0_v2.rd (by omega)) p0_v2.cap (p1.rd (by omega)) p1.cap).mono ?_
  rintro e v3 ⟨Av3, Cv3, rfl, ov3, bv3⟩
  have sw := SegF.of ov3
  clear ov3
  have zv3 := bv3.size
  have tv3 := tv2.trans (bv3.mono tv2.size)
  clear tv2
  have r0_v3 := r0_v2.below (bv3.mono (by omega))
  clear r0_v2
  have r1_v3 := r1_v2.below (bv3.mono (by omega))
  clear r1_v2
  have p0_v3 := p0_v2.below bv3 (by omega)
  clear p0_v2
  have p1_v3 := p1.below bv3 (by omega)
  clear p1
  clear bv3
  clear p0_v3
  clear p1_v3
  go_wp2_with fail
  refine (toI a0 len0 cap0 x0 _ (r0_v3.more (by omega)) n0).mono ?_
  rintro e v4 ⟨Av4, Cv4, rfl, q0, bv4⟩
  have zv4 := bv4.size
  have tv4 := tv3.trans (bv4.mono tv3.size)
  clear tv3
  have r0_v4 := r0_v3.below (bv4.mono (by omega))
  clear r0_v3
  have r1_v4 := r1_v3.below (bv4.mono (by omega))
  clear r1_v3
  have sw_v4 := sw.below bv4 (by omega)
  clear sw
  clear bv4
  go_wp2_with fail
  refine (toI a1 len1 cap1 x1 _ (r1_v4.more (by omega)) n1).mono ?_
  rintro e v5 ⟨Av5, Cv5, rfl, q1, bv5⟩
  have zv5 := bv5.size
  have tv5 := tv4.trans (bv5.mono tv4.size)
  clear tv4
  have r0_v5 := r0_v4.below (bv5.mono (by omega))
  clear r0_v4
  have r1_v5 := r1_v4.below (bv5.mono (by omega))
  clear r1_v4
  have sw_v5 := sw_v4.below bv5 (by omega)
  clear sw_v4
  have q0_v5 := q0.below bv5 (by omega)
  clear q0
  clear bv5
  go_wp2_with fail
  refine (HI.out Av4 Cv4 Av5 Cv5 _ (q0_v5.rd (by omega)) q0_v5.cap (q1.rd (by omega)) q1.cap).mono ?_
  rintro e v6 ⟨Av6, Cv6, rfl, ov6, bv6⟩
  have sg := SegF.of ov6
  clear ov6
  have zv6 := bv6.size
  have tv6 := tv5.trans (bv6.mono tv5.size)
  clear tv5
  have r0_v6 := r0_v5.below (bv6.mono (by omega))
  clear r0_v5
  have r1_v6 := r1_v5.below (bv6.mono (by omega))
  clear r1_v5
  have sw_v6 := sw_v5.below bv6 (by omega)
  clear sw_v5
  have q0_v6 := q0_v5.below bv6 (by omega)
  clear q0_v5
  have q1_v6 := q1.below bv6 (by omega)
  clear q1
  clear bv6
  go_wp2_with fail
  refine (eqF Av6 Av3 y0.length Cv6 Cv3 y0 _ (sg.rd (by omega)) (sw_v6.rd (by omega)) N0 l0).mono ?_
  rintro e v7 ⟨rfl, bv7⟩
  have zv7 := bv7.size
  have tv7 := tv6.trans (bv7.mono tv6.size)
  clear tv6
  have r0_v7 := r0_v6.below (bv7.mono (by omega))
  clear r0_v6
  have r1_v7 := r1_v6.below (bv7.mono (by omega))
  clear r1_v6
  have sw_v7 := sw_v6.below bv7 (by omega)
  clear sw_v6
  have q0_v7 := q0_v6.below bv7 (by omega)
  clear q0_v6
  have q1_v7 := q1_v6.below bv7 (by omega)
  clear q1_v6
  have sg_v7 := sg.below bv7 (by omega)
  clear sg
  clear bv7
  go_wp2_with fail
  refine (toI a0 len0 cap0 x0 _ (r0_v7.more (by omega)) n0).mono ?_
  rintro e v8 ⟨Av8, Cv8, rfl, u0, bv8⟩
  have zv8 := bv8.size
  have tv8 := tv7.trans (bv8.mono tv7.size)
  clear tv7
  have r0_v8 := r0_v7.below (bv8.mono (by omega))
  clear r0_v7
  have r1_v8 := r1_v7.below (bv8.mono (by omega))
  clear r1_v7
  have sw_v8 := sw_v7.below bv8 (by omega)
  clear sw_v7
  have q0_v8 := q0_v7.below bv8 (by omega)
  clear q0_v7
  have q1_v8 := q1_v7.below bv8 (by omega)
  clear q1_v7
  have sg_v8 := sg_v7.below bv8 (by omega)
  clear sg_v7
  clear bv8
  go_wp2_with fail
  refine (eqI Av4 Av8 len0 Cv4 Cv8 x0 _ (q0_v8.rd (by omega)) (u0.rd (by omega)) n0).mono ?_
  rintro e v9 ⟨rfl, bv9⟩
  have zv9 := bv9.size
  have tv9 := tv8.trans (bv9.mono tv8.size)
  clear tv8
  have r0_v9 := r0_v8.below (bv9.mono (by omega))
  clear r0_v8
  have r1_v9 := r1_v8.below (bv9.mono (by omega))
  clear r1_v8
  have sw_v9 := sw_v8.below bv9 (by omega)
  clear sw_v8
  have q0_v9 := q0_v8.below bv9 (by omega)
  clear q0_v8
  have q1_v9 := q1_v8.below bv9 (by omega)
  clear q1_v8
  have sg_v9 := sg_v8.below bv9 (by omega)
  clear sg_v8
  have u0_v9 := u0.below bv9 (by omega)
  clear u0
  clear bv9
  clear u0_v9
  go_wp2_with fail
  refine (toI a1 len1 cap1 x1 _ (r1_v9.more (by omega)) n1).mono ?_
  rintro e v10 ⟨Av10, Cv10, rfl, u1, bv10⟩
  have zv10 := bv10.size
  have tv10 := tv9.trans (bv10.mono tv9.size)
  clear tv9
  have r0_v10 := r0_v9.below (bv10.mono (by omega))
  clear r0_v9
  have r1_v10 := r1_v9.below (bv10.mono (by omega))
  clear r1_v9
  have sw_v10 := sw_v9.below bv10 (by omega)
  clear sw_v9
  have q0_v10 := q0_v9.below bv10 (by omega)
  clear q0_v9
  have q1_v10 := q1_v9.below bv10 (by omega)
  clear q1_v9
  have sg_v10 := sg_v9.below bv10 (by omega)
  clear sg_v9
  clear bv10
  go_wp2_with fail
  refine (eqI Av5 Av10 len1 Cv5 Cv10 x1 _ (q1_v10.rd (by omega)) (u1.rd (by omega)) n1).mono ?_
  rintro e v11 ⟨rfl, bv11⟩
  have zv11 := bv11.size
  have tv11 := tv10.trans (bv11.mono tv10.size)
  clear tv10
  have r0_v11 := r0_v10.below (bv11.mono (by omega))
  clear r0_v10
  have r1_v11 := r1_v10.below (bv11.mono (by omega))
  clear r1_v10
  have sw_v11 := sw_v10.below bv11 (by omega)
  clear sw_v10
  have q0_v11 := q0_v10.below bv11 (by omega)
  clear q0_v10
  have q1_v11 := q1_v10.below bv11 (by omega)
  clear q1_v10
  have sg_v11 := sg_v10.below bv11 (by omega)
  clear sg_v10
  have u1_v11 := u1.below bv11 (by omega)
  clear u1
  clear bv11
  clear u1_v11
  go_wp2_with fail
  refine (markI Av4 len0 Cv4 x0 _ v3.heap.size v4.heap.size q0_v11 (by omega) (1) n0 (by omega)).mono ?_
  rintro e v12 ⟨rfl, mv12, ⟨rowv12, gv12, hrv12⟩, bv12⟩
  have zv12 := bv12.size
  clear q0_v11
  have tv12 := tv11.trans (bv12.mono (by omega))
  clear tv11
  have r0_v12 := r0_v11.below (bv12.mono (by omega))
  clear r0_v11
  have r1_v12 := r1_v11.below (bv12.mono (by omega))
  clear r1_v11
  have sw_v12 := sw_v11.grown gv12 (fun k hk => by have := hrv12 k hk; omega)
  clear sw_v11
  have q1_v12 := q1_v11.grown gv12 (fun k hk => by have := hrv12 k hk; omega)
  clear q1_v11
  have sg_v12 := sg_v11.grown gv12 (fun k hk => by have := hrv12 k hk; omega)
  clear sg_v11
  clear gv12 hrv12 bv12
  go_wp2_with fail
  refine (markI Av5 len1 Cv5 x1 _ v4.heap.size v5.heap.size q1_v12 (by omega) (1 + len0) n1 (by omega)).mono ?_
  rintro e v13 ⟨rfl, mv13, ⟨rowv13, gv13, hrv13⟩, bv13⟩
  have zv13 := bv13.size
  clear q1_v12
  have tv13 := tv12.trans (bv13.mono (by omega))
  clear tv12
  have r0_v13 := r0_v12.below (bv13.mono (by omega))
  clear r0_v12
  have r1_v13 := r1_v12.below (bv13.mono (by omega))
  clear r1_v12
  have sw_v13 := sw_v12.grown gv13 (fun k hk => by have := hrv13 k hk; omega)
  clear sw_v12
  have sg_v13 := sg_v12.grown gv13 (fun k hk => by have := hrv13 k hk; omega)
  clear sg_v12
  have q0_v13 := mv12.grown gv13 (fun k hk => by have := hrv13 k hk; omega)
  clear mv12
  clear gv13 hrv13 bv13
  go_wp2_with fail
  refine (eqF Av6 Av3 y0.length Cv6 Cv3 y0 _ (sg_v13.rd (by omega)) (sw_v13.rd (by omega)) N0 l0).mono ?_
  rintro e v14 ⟨rfl, bv14⟩
  have zv14 := bv14.size
  have tv14 := tv13.trans (bv14.mono tv13.size)
  clear tv13
  have r0_v14 := r0_v13.below (bv14.mono (by omega))
  clear r0_v13
  have r1_v14 := r1_v13.below (bv14.mono (by omega))
  clear r1_v13
  have sw_v14 := sw_v13.below bv14 (by omega)
  clear sw_v13
  have sg_v14 := sg_v13.below bv14 (by omega)
  clear sg_v13
  have q0_v14 := q0_v13.below bv14 (by omega)
  clear q0_v13
  have q1_v14 := mv13.below bv14 (by omega)
  clear mv13
  clear bv14
  go_wp2_with fail
  refine (markF Av6 y0.length Cv6 y0 _ v5.heap.size v6.heap.size sg_v14 (by omega) (1) l0 (by omega)).mono ?_
  rintro e v15 ⟨rfl, mv15, ⟨rowv15, gv15, hrv15⟩, bv15⟩
  have zv15 := bv15.size
  clear sg_v14
  have tv15 := tv14.trans (bv15.mono (by omega))
  clear tv14
  have r0_v15 := r0_v14.below (bv15.mono (by omega))
  clear r0_v14
  have r1_v15 := r1_v14.below (bv15.mono (by omega))
  clear r1_v14
  have sw_v15 := sw_v14.grown gv15 (fun k hk => by have := hrv15 k hk; omega)
  clear sw_v14
  have q0_v15 := q0_v14.grown gv15 (fun k hk => by have := hrv15 k hk; omega)
  clear q0_v14
  have q1_v15 := q1_v14.grown gv15 (fun k hk => by have := hrv15 k hk; omega)
  clear q1_v14
  clear gv15 hrv15 bv15
  go_wp2_with fail
  refine (heldF Av6 y0.length Cv6 _ _ (1) (mv15.rd (Nat.le_refl _)) l0 (by omega)).mono ?_
  rintro e w' ⟨rfl, rfl⟩
  clear q0_v15
  clear q1_v15
  go_wp2_with fail
  refine (toI a0 len0 cap0 x0 _ (r0_v15.more (by omega)) n0).mono ?_
  rintro e v16 ⟨Av16, Cv16, rfl, s0, bv16⟩
  have zv16 := bv16.size
  have tv16 := tv15.trans (bv16.mono tv15.size)
  clear tv15
  have r0_v16 := r0_v15.below (bv16.mono (by omega))
  clear r0_v15
  have r1_v16 := r1_v15.below (bv16.mono (by omega))
  clear r1_v15
  have sw_v16 := sw_v15.below bv16 (by omega)
  clear sw_v15
  have sg_v16 := mv15.below bv16 (by omega)
  clear mv15
  clear bv16
  go_wp2_with fail
  refine (toI a1 len1 cap1 x1 _ (r1_v16.more (by omega)) n1).mono ?_
  rintro e v17 ⟨Av17, Cv17, rfl, s1, bv17⟩
  have zv17 := bv17.size
  have tv17 := tv16.trans (bv17.mono tv16.size)
  clear tv16
  have r0_v17 := r0_v16.below (bv17.mono (by omega))
  clear r0_v16
  have r1_v17 := r1_v16.below (bv17.mono (by omega))
  clear r1_v16
  have sw_v17 := sw_v16.below bv17 (by omega)
  clear sw_v16
  have sg_v17 := sg_v16.below bv17 (by omega)
  clear sg_v16
  have s0_v17 := s0.below bv17 (by omega)
  clear s0
  clear bv17
  go_wp2_with fail
  refine (HI.out Av16 Cv16 Av17 Cv17 _ (s0_v17.rd (by omega)) s0_v17.cap (s1.rd (by omega)) s1.cap).mono ?_
  rintro e v18 ⟨Av18, Cv18, rfl, ov18, bv18⟩
  have sh := SegF.of ov18
  clear ov18
  have zv18 := bv18.size
  have tv18 := tv17.trans (bv18.mono tv17.size)
  clear tv17
  have r0_v18 := r0_v17.below (bv18.mono (by omega))
  clear r0_v17
  have r1_v18 := r1_v17.below (bv18.mono (by omega))
  clear r1_v17
  have sw_v18 := sw_v17.below bv18 (by omega)
  clear sw_v17
  have sg_v18 := sg_v17.below bv18 (by omega)
  clear sg_v17
  have s0_v18 := s0_v17.below bv18 (by omega)
  clear s0_v17
  have s1_v18 := s1.below bv18 (by omega)
  clear s1
  clear bv18
  go_wp2_with fail
  refine (eqF Av18 Av3 y0.length Cv18 Cv3 y0 _ (sh.rd (by omega)) (sw_v18.rd (by omega)) N0 l0).mono ?_
  rintro e v19 ⟨rfl, bv19⟩
  have zv19 := bv19.size
  have tv19 := tv18.trans (bv19.mono tv18.size)
  clear tv18
  have r0_v19 := r0_v18.below (bv19.mono (by omega))
  clear r0_v18
  have r1_v19 := r1_v18.below (bv19.mono (by omega))
  clear r1_v18
  have sw_v19 := sw_v18.below bv19 (by omega)
  clear sw_v18
  have sg_v19 := sg_v18.below bv19 (by omega)
  clear sg_v18
  have s0_v19 := s0_v18.below bv19 (by omega)
  clear s0_v18
  have s1_v19 := s1_v18.below bv19 (by omega)
  clear s1_v18
  have sh_v19 := sh.below bv19 (by omega)
  clear sh
  clear bv19
  go_wp2_with fail
  refine (heldF Av6 y0.length Cv6 _ _ (1) (sg_v19.rd (Nat.le_refl _)) l0 (by omega)).mono ?_
  rintro e w' ⟨rfl, rfl⟩
  go_wp2
  go_ret
  exact ⟨rfl, tv19⟩

/-! ### THE ROW's STEP: WRITTEN OUT: LEAVE IT -/
set_option maxRecDepth 100000 in
theorem lifted (os : Os) (started : os.Started) (H : Type) (enc : TypeId × Value → H) :
    ReturnsInHanded {} Try.checked os 9 .any (Rows.fnExactPrizeSharesSpec.pre6 enc Try.prog Try.f9 Rows.fnExactPrizeSharesRow.domain false) (Rows.fnExactPrizeSharesSpec.post enc Try.prog Try.f9 false true false false) := by
  refine returnsInHanded_of_change (C := Try.checked) own started (by kernel_rfl) Try.func9
    (ChangeSpec.witness6 (enc := enc) (C := Try.checked) false ⟨#[], #[.slice none 0 0, .slice none 0 0], []⟩ 8 (by kernel_rfl) (by kernel_rfl) (by kernel_rfl) (by kernel_rfl)) ?_
  intro W base args ds gs before hval0 hW hcnd _
  have hval : ∀ (j : Nat) t v, Try.f9.params[j]? = some t → args[j]? = some v → Value.okWide Try.prog W .any base t v := hval0
  have hW' := hW
  obtain ⟨p, q, hA0, hV, rfl, hfz, hnd⟩ := hW
  have hA : DataW.TrodAll enc Try.prog W 0 (fun _ => true) true Try.f9.params.toList args.toList ds p := hA0
  rw [Try.params9] at hA hval
  obtain ⟨v0, vs0, d0, ds0, p0, q0, hargs, rfl, rfl, h0, r0⟩ := trodAll_cons hA
  obtain ⟨v1, vs1, d1, ds1, p1, q1, rfl, rfl, rfl, h1, r1⟩ := trodAll_cons r0
  obtain ⟨rfl, rfl, rfl⟩ := trodAll_nil r1
  obtain rfl : args = #[v0, v1] := by cases args; simp_all
  obtain ⟨rfl, rfl⟩ := trodVars_none hV
  obtain ⟨a0, len0, cap0, rfl⟩ := okWide_slice Try.underlying35 (hval 0 35 v0 rfl rfl)
  have k0 := h0
  have lt0 : ∀ x ∈ p0, x.block < W.heap.size := by obtain ⟨m, hm⟩ := k0; exact DataW.trod_lt m _ _ _ hm
  obtain ⟨z0, w0⟩ : ∃ zs, IsRow .i64 W a0 len0 cap0 zs := by
    obtain ⟨fuel, hf⟩ := h0
    rcases open_ints Try.underlying35 Try.underlying2 (by kernel_rfl) hf with ⟨hcs, _⟩ | ⟨x, l, c, zs, hcs, _, hl, hm, hz, _, hcell, hwz⟩
    · simp [Value.cells] at hcs
      obtain ⟨rfl, rfl, rfl⟩ := hcs
      exact ⟨[], .inl ⟨rfl, rfl, rfl, rfl⟩⟩
    · simp [Value.cells] at hcs
      obtain ⟨rfl, rfl, rfl⟩ := hcs
      exact ⟨zs, .inr ⟨_, rfl, hl, hm, by simpa using hz, hcell, hwz⟩⟩
  obtain ⟨a1, len1, cap1, rfl⟩ := okWide_slice Try.underlying35 (hval 1 35 v1 rfl rfl)
  have k1 := h1
  have lt1 : ∀ x ∈ p1, x.block < W.heap.size := by obtain ⟨m, hm⟩ := k1; exact DataW.trod_lt m _ _ _ hm
  obtain ⟨z1, w1⟩ : ∃ zs, IsRow .i64 W a1 len1 cap1 zs := by
    obtain ⟨fuel, hf⟩ := h1
    rcases open_ints Try.underlying35 Try.underlying2 (by kernel_rfl) hf with ⟨hcs, _⟩ | ⟨x, l, c, zs, hcs, _, hl, hm, hz, _, hcell, hwz⟩
    · simp [Value.cells] at hcs
      obtain ⟨rfl, rfl, rfl⟩ := hcs
      exact ⟨[], .inl ⟨rfl, rfl, rfl, rfl⟩⟩
    · simp [Value.cells] at hcs
      obtain ⟨rfl, rfl, rfl⟩ := hcs
      exact ⟨zs, .inr ⟨_, rfl, hl, hm, by simpa using hz, hcell, hwz⟩⟩
  clear hA0 hval0
  refine (walk a0 len0 cap0 z0 a1 len1 cap1 z1 W w0 w1).mono fun e W' ⟨he, bel⟩ => ?_
  subst he
  exact ⟨_, rfl, _, _, _, [], _, [], hW', trodAll_mk1 (shut_bool Try.underlying4 _), (trodAll_cons_mk (Below.trod laidOut (by kernel_rfl) (of_decide_eq_true (by kernel_rfl)) k0 bel lt0) (trodAll_cons_mk (Below.trod laidOut (by kernel_rfl) (of_decide_eq_true (by kernel_rfl)) k1 bel lt1) trodAll_mk0)), rfl, bel.frame _, fun h => by cases h⟩

theorem over : Rows.fnExactPrizeSharesRow.holds Try.pinned (OpenSpec.ofChange Rows.fnExactPrizeSharesSpec) :=
  OpenClaim.holds_of_wide 9 Try.f9 rfl rfl rfl rfl rfl rfl rfl ⟨rfl, rfl, rfl, rfl, rfl⟩ rfl rfl rfl rfl rfl (by kernel_rfl) Try.func9 (by kernel_rfl)
    (of_decide_eq_true (by kernel_rfl)) (by unfold Func.isWrapper; first | (rw [if_pos (by decide +kernel)]; kernel_rfl) | (rw [if_neg (by decide +kernel)]; exact ⟨rfl, rfl⟩))
    (fun os started H enc _ => lifted os started H enc)

/-- ████ THE STATEMENT ████ -/
theorem proved : Rows.FnExactPrizeSharesSaid := over
#print axioms proved
end Go.Proofs.Ytlfffkjgepgcfaa.fnExactPrizeShares
