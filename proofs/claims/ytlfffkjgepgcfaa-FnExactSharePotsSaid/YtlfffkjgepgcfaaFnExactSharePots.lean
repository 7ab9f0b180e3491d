/-
  The statement FnExactSharePots is proved: the Go function loop.example/g01401 laws.FnExactSharePots answers true for every input and leaves its arguments as they were. Conditions: none.
-/
import Derived.Test.YtlfffkjgepgcfaaRows
import Derived.WalkKit
import Derived.ProofKit
import Derived.OpenShut
import Derived.WalkLawsBesides
import Derived.Deep.Grids
import Derived.Deep.Matrix
import Derived.Test.YtlfffkjgepgcfaaShI
import Derived.Test.YtlfffkjgepgcfaaLaw2
import Derived.Test.YtlfffkjgepgcfaaLawB
import Derived.ChangeOld
import Derived.Below
import Derived.ShutString
namespace Go.Proofs.Ytlfffkjgepgcfaa.fnExactSharePots
open Go.ChangeShapes Go.WideShapes Go.ChangeAt Go.RowKit
set_option linter.unusedVariables false

open base mem chance
theorem own : ownKnob Try.prog.godebug = none := by kernel_rfl
theorem laidOut : laidOutB Try.prog = true := by kernel_rfl

/-- what the walk is told of a slice of integers that came in -/
def IsRow (k : IntKind) (w : World) (a : Option Addr) (len cap : Nat) (zs : List Int) : Prop :=
  (a = none ∧ len = 0 ∧ cap = 0 ∧ zs = []) ∨ ∃ x, a = some x ∧ len ≤ cap ∧ cap ≤ maxLen ∧ zs.length = cap ∧ (∀ i, i < zs.length → w.cell? (x.add i) = some (.int k (zs.getD i 0))) ∧ ∀ n ∈ zs, (Lit.int k n).wf = true

set_option maxHeartbeats 2000000 in
theorem walk (a0 : Option Addr) (len0 cap0 : Nat) (z0 : List Int) (a1 : Option Addr) (len1 cap1 : Nat) (z1 : List Bool) (a2 : Option Addr) (len2 cap2 : Nat) (z2 : List Int) (w : World) (w0 : IsRow .i64 w a0 len0 cap0 z0) (w1 : IsRowB w a1 len1 cap1 z1) (w2 : IsRow .i64 w a2 len2 cap2 z2) :
    Calls Try.prog 11 #[.slice a0 len0 cap0, .slice a1 len1 cap1, .slice a2 len2 cap2] w fun e w' => e = .returned (.bool true) ∧ Below w.heap.size w w' := by
  by_cases big0 : 1048576 < len0
  · clear w0 w1 w2
    go_enter Try.func11, Try.ntmps11
    go_wp2
    go_ret
    exact ⟨rfl, Below.refl _ _⟩
  have n0 : len0 ≤ 1048576 := by omega
  by_cases big1 : 1048576 < len1
  · clear w0 w1 w2
    go_enter Try.func11, Try.ntmps11
    go_wp2
    go_ret
    exact ⟨rfl, Below.refl _ _⟩
  have n1 : len1 ≤ 1048576 := by omega
  by_cases big2 : 1048576 < len2
  · clear w0 w1 w2
    go_enter Try.func11, Try.ntmps11
    go_wp2
    go_ret
    exact ⟨rfl, Below.refl _ _⟩
  have n2 : len2 ≤ 1048576 := by omega
  obtain ⟨r0, c0, _⟩ := rd_of_row w0
  generalize hx0 : z0.take len0 = x0 at r0
  clear w0 hx0
  obtain ⟨r1, c1, _⟩ := rdB_of_row w1
  generalize hx1 : z1.take len1 = x1 at r1
  clear w1 hx1
  obtain ⟨r2, c2, _⟩ := rd_of_row w2
  generalize hx2 : z2.take len2 = x2 at r2
  clear w2 hx2
  have HS := hide (fun (A0 : Option Addr) (C0 : Nat) (A1 : Option Addr) (C1 : Nat) (A2 : Option Addr) (C2 : Nat) (V : World) (h0 : Rd V V.heap.size A0 len0 x0) (k0 : len0 ≤ C0) (h1 : RdB V V.heap.size A1 len1 x1) (k1 : len1 ≤ C1) (h2 : Rd V V.heap.size A2 len2 x2) (k2 : len2 ≤ C2) => spec_SharePots A0 len0 C0 x0 A1 len1 C1 x1 A2 len2 C2 x2 V h0 n0 k0 h1 n1 k1 h2 n2 k2)
  have HI := hide (fun (A0 : Option Addr) (C0 : Nat) (A1 : Option Addr) (C1 : Nat) (A2 : Option Addr) (C2 : Nat) (V : World) (h0 : Rd V V.heap.size A0 len0 x0) (k0 : len0 ≤ C0) (h1 : RdB V V.heap.size A1 len1 x1) (k1 : len1 ≤ C1) (h2 : Rd V V.heap.size A2 len2 x2) (k2 : len2 ≤ C2) => impl_SharePots A0 len0 C0 x0 A1 len1 C1 x1 A2 len2 C2 x2 V h0 n0 k0 h1 n1 k1 h2 n2 k2)
  have l0 : ((shOut x0 x1 x2)).length ≤ 1048576 := shOut_len x0 x1 x2
  generalize (shOut x0 x1 x2) = y0 at HS HI l0
  generalize shOk x0 x1 x2 = y1 at HS HI
  go_enter Try.func11, Try.ntmps11
  go_wp2_with fail
  refine (toI a0 len0 cap0 x0 _ (r0.more (by omega)) n0).mono ?_
  rintro e v1 ⟨Av1, Cv1, rfl, p0, bv1⟩
  have zv1 := bv1.size
  have tv1 := bv1
  have r0_v1 := r0.below (bv1.mono (by omega))
  clear r0
  have r1_v1 := r1.below (bv1.mono (by omega))
  clear r1
  have r2_v1 := r2.below (bv1.mono (by omega))
  clear r2
  clear bv1
  go_wp2_with fail
  refine (toB a1 len1 cap1 x1 _ (r1_v1.more (by omega)) n1).mono ?_
  rintro e v2 ⟨Av2, Cv2, rfl, p1, bv2⟩
  have zv2 := bv2.size
  have tv2 := tv1.trans (bv2.mono tv1.size)
  clear tv1
  have r0_v2 := r0_v1.below (bv2.mono (by omega))
  clear r0_v1
  have r1_v2 := r1_v1.below (bv2.mono (by omega))
  clear r1_v1
  have r2_v2 := r2_v1.below (bv2.mono (by omega))
  clear r2_v1
  have p0_v2 := p0.below bv2 (by omega)
  clear p0
  clear bv2
  go_wp2_with fail
  refine (toI a2 len2 cap2 x2 _ (r2_v2.more (by omega)) n2).mono ?_
  rintro e v3 ⟨Av3, Cv3, rfl, p2, bv3⟩
  have zv3 := bv3.size
  have tv3 := tv2.trans (bv3.mono tv2.size)
  clear tv2
  have r0_v3 := r0_v2.below (bv3.mono (by omega))
  clear r0_v2
  have r1_v3 := r1_v2.below (bv3.mono (by omega))
  clear r1_v2
  have r2_v3 := r2_v2.below (bv3.mono (by omega))
  clear r2_v2
  have p0_v3 := p0_v2.below bv3 (by omega)
  clear p0_v2
  have p1_v3 := p1.below bv3 (by omega)
  clear p1
  clear bv3
  go_wp2_with fail
  refine (HS.out Av1 Cv1 Av2 Cv2 Av3 Cv3 _ (p0_v3.rd (by omega)) p0_v3.cap (p1_v3.rd (by omega)) p1_v3.cap (p2.rd (by omega)) p2.cap).mono ?_
  rintro e v4 ⟨Av4, Cv4, rfl, ov4, bv4⟩
  have sw := Seg.of ov4
  clear ov4
  have zv4 := bv4.size
  have tv4 := tv3.trans (bv4.mono tv3.size)
  clear tv3
  have r0_v4 := r0_v3.below (bv4.mono (by omega))
  clear r0_v3
  have r1_v4 := r1_v3.below (bv4.mono (by omega))
  clear r1_v3
  have r2_v4 := r2_v3.below (bv4.mono (by omega))
  clear r2_v3
  have p0_v4 := p0_v3.below bv4 (by omega)
  clear p0_v3
  have p1_v4 := p1_v3.below bv4 (by omega)
  clear p1_v3
  have p2_v4 := p2.below bv4 (by omega)
  clear p2
  clear bv4
  clear p0_v4
  clear p1_v4
  clear p2_v4
  go_wp2_with fail
  refine (toI a0 len0 cap0 x0 _ (r0_v4.more (by omega)) n0).mono ?_
  rintro e v5 ⟨Av5, Cv5, rfl, q0, bv5⟩
  have zv5 := bv5.size
  have tv5 := tv4.trans (bv5.mono tv4.size)
  clear tv4
  have r0_v5 := r0_v4.below (bv5.mono (by omega))
  clear r0_v4
  have r1_v5 := r1_v4.below (bv5.mono (by omega))
  clear r1_v4
  have r2_v5 := r2_v4.below (bv5.mono (by omega))
  clear r2_v4
  have sw_v5 := sw.below bv5 (by omega)
  clear sw
  clear bv5
  go_wp2_with fail
  refine (toB a1 len1 cap1 x1 _ (r1_v5.more (by omega)) n1).mono ?_
  rintro e v6 ⟨Av6, Cv6, rfl, q1, bv6⟩
  have zv6 := bv6.size
  have tv6 := tv5.trans (bv6.mono tv5.size)
  clear tv5
  have r0_v6 := r0_v5.below (bv6.mono (by omega))
  clear r0_v5
  have r1_v6 := r1_v5.below (bv6.mono (by omega))
  clear r1_v5
  have r2_v6 := r2_v5.below (bv6.mono (by omega))
  clear r2_v5
  have sw_v6 := sw_v5.below bv6 (by omega)
  clear sw_v5
  have q0_v6 := q0.below bv6 (by omega)
  clear q0
  clear bv6
  go_wp2_with fail
  refine (toI a2 len2 cap2 x2 _ (r2_v6.more (by omega)) n2).mono ?_
  rintro e v7 ⟨Av7, Cv7, rfl, q2, bv7⟩
  have zv7 := bv7.size
  have tv7 := tv6.trans (bv7.mono tv6.size)
  clear tv6
  have r0_v7 := r0_v6.below (bv7.mono (by omega))
  clear r0_v6
  have r1_v7 := r1_v6.below (bv7.mono (by omega))
  clear r1_v6
  have r2_v7 := r2_v6.below (bv7.mono (by omega))
  clear r2_v6
  have sw_v7 := sw_v6.below bv7 (by omega)
  clear sw_v6
  have q0_v7 := q0_v6.below bv7 (by omega)
  clear q0_v6
  have q1_v7 := q1.below bv7 (by omega)
  clear q1
  clear bv7
  go_wp2_with fail
  refine (HI.out Av5 Cv5 Av6 Cv6 Av7 Cv7 _ (q0_v7.rd (by omega)) q0_v7.cap (q1_v7.rd (by omega)) q1_v7.cap (q2.rd (by omega)) q2.cap).mono ?_
  rintro e v8 ⟨Av8, Cv8, rfl, ov8, bv8⟩
  have sg := Seg.of ov8
  clear ov8
  have zv8 := bv8.size
  have tv8 := tv7.trans (bv8.mono tv7.size)
  clear tv7
  have r0_v8 := r0_v7.below (bv8.mono (by omega))
  clear r0_v7
  have r1_v8 := r1_v7.below (bv8.mono (by omega))
  clear r1_v7
  have r2_v8 := r2_v7.below (bv8.mono (by omega))
  clear r2_v7
  have sw_v8 := sw_v7.below bv8 (by omega)
  clear sw_v7
  have q0_v8 := q0_v7.below bv8 (by omega)
  clear q0_v7
  have q1_v8 := q1_v7.below bv8 (by omega)
  clear q1_v7
  have q2_v8 := q2.below bv8 (by omega)
  clear q2
  clear bv8
  go_wp2_with fail
  refine (eqI Av8 Av4 y0.length Cv8 Cv4 y0 _ (sg.rd (by omega)) (sw_v8.rd (by omega)) l0).mono ?_
  rintro e v9 ⟨rfl, bv9⟩
  have zv9 := bv9.size
  have tv9 := tv8.trans (bv9.mono tv8.size)
  clear tv8
  have r0_v9 := r0_v8.below (bv9.mono (by omega))
  clear r0_v8
  have r1_v9 := r1_v8.below (bv9.mono (by omega))
  clear r1_v8
  have r2_v9 := r2_v8.below (bv9.mono (by omega))
  clear r2_v8
  have sw_v9 := sw_v8.below bv9 (by omega)
  clear sw_v8
  have q0_v9 := q0_v8.below bv9 (by omega)
  clear q0_v8
  have q1_v9 := q1_v8.below bv9 (by omega)
  clear q1_v8
  have q2_v9 := q2_v8.below bv9 (by omega)
  clear q2_v8
  have sg_v9 := sg.below bv9 (by omega)
  clear sg
  clear bv9
  go_wp2_with fail
  refine (toI a0 len0 cap0 x0 _ (r0_v9.more (by omega)) n0).mono ?_
  rintro e v10 ⟨Av10, Cv10, rfl, u0, bv10⟩
  have zv10 := bv10.size
  have tv10 := tv9.trans (bv10.mono tv9.size)
  clear tv9
  have r0_v10 := r0_v9.below (bv10.mono (by omega))
  clear r0_v9
  have r1_v10 := r1_v9.below (bv10.mono (by omega))
  clear r1_v9
  have r2_v10 := r2_v9.below (bv10.mono (by omega))
  clear r2_v9
  have sw_v10 := sw_v9.below bv10 (by omega)
  clear sw_v9
  have q0_v10 := q0_v9.below bv10 (by omega)
  clear q0_v9
  have q1_v10 := q1_v9.below bv10 (by omega)
  clear q1_v9
  have q2_v10 := q2_v9.below bv10 (by omega)
  clear q2_v9
  have sg_v10 := sg_v9.below bv10 (by omega)
  clear sg_v9
  clear bv10
  go_wp2_with fail
  refine (eqI Av5 Av10 len0 Cv5 Cv10 x0 _ (q0_v10.rd (by omega)) (u0.rd (by omega)) n0).mono ?_
  rintro e v11 ⟨rfl, bv11⟩
  have zv11 := bv11.size
  have tv11 := tv10.trans (bv11.mono tv10.size)
  clear tv10
  have r0_v11 := r0_v10.below (bv11.mono (by omega))
  clear r0_v10
  have r1_v11 := r1_v10.below (bv11.mono (by omega))
  clear r1_v10
  have r2_v11 := r2_v10.below (bv11.mono (by omega))
  clear r2_v10
  have sw_v11 := sw_v10.below bv11 (by omega)
  clear sw_v10
  have q0_v11 := q0_v10.below bv11 (by omega)
  clear q0_v10
  have q1_v11 := q1_v10.below bv11 (by omega)
  clear q1_v10
  have q2_v11 := q2_v10.below bv11 (by omega)
  clear q2_v10
  have sg_v11 := sg_v10.below bv11 (by omega)
  clear sg_v10
  have u0_v11 := u0.below bv11 (by omega)
  clear u0
  clear bv11
  clear u0_v11
  go_wp2_with fail
  refine (toB a1 len1 cap1 x1 _ (r1_v11.more (by omega)) n1).mono ?_
  rintro e v12 ⟨Av12, Cv12, rfl, u1, bv12⟩
  have zv12 := bv12.size
  have tv12 := tv11.trans (bv12.mono tv11.size)
  clear tv11
  have r0_v12 := r0_v11.below (bv12.mono (by omega))
  clear r0_v11
  have r1_v12 := r1_v11.below (bv12.mono (by omega))
  clear r1_v11
  have r2_v12 := r2_v11.below (bv12.mono (by omega))
  clear r2_v11
  have sw_v12 := sw_v11.below bv12 (by omega)
  clear sw_v11
  have q0_v12 := q0_v11.below bv12 (by omega)
  clear q0_v11
  have q1_v12 := q1_v11.below bv12 (by omega)
  clear q1_v11
  have q2_v12 := q2_v11.below bv12 (by omega)
  clear q2_v11
  have sg_v12 := sg_v11.below bv12 (by omega)
  clear sg_v11
  clear bv12
  go_wp2_with fail
  refine (eqB Av6 Av12 len1 Cv6 Cv12 x1 _ (q1_v12.rd (by omega)) (u1.rd (by omega)) n1).mono ?_
  rintro e v13 ⟨rfl, bv13⟩
  have zv13 := bv13.size
  have tv13 := tv12.trans (bv13.mono tv12.size)
  clear tv12
  have r0_v13 := r0_v12.below (bv13.mono (by omega))
  clear r0_v12
  have r1_v13 := r1_v12.below (bv13.mono (by omega))
  clear r1_v12
  have r2_v13 := r2_v12.below (bv13.mono (by omega))
  clear r2_v12
  have sw_v13 := sw_v12.below bv13 (by omega)
  clear sw_v12
  have q0_v13 := q0_v12.below bv13 (by omega)
  clear q0_v12
  have q1_v13 := q1_v12.below bv13 (by omega)
  clear q1_v12
  have q2_v13 := q2_v12.below bv13 (by omega)
  clear q2_v12
  have sg_v13 := sg_v12.below bv13 (by omega)
  clear sg_v12
  have u1_v13 := u1.below bv13 (by omega)
  clear u1
  clear bv13
  clear u1_v13
  go_wp2_with fail
  refine (toI a2 len2 cap2 x2 _ (r2_v13.more (by omega)) n2).mono ?_
  rintro e v14 ⟨Av14, Cv14, rfl, u2, bv14⟩
  have zv14 := bv14.size
  have tv14 := tv13.trans (bv14.mono tv13.size)
  clear tv13
  have r0_v14 := r0_v13.below (bv14.mono (by omega))
  clear r0_v13
  have r1_v14 := r1_v13.below (bv14.mono (by omega))
  clear r1_v13
  have r2_v14 := r2_v13.below (bv14.mono (by omega))
  clear r2_v13
  have sw_v14 := sw_v13.below bv14 (by omega)
  clear sw_v13
  have q0_v14 := q0_v13.below bv14 (by omega)
  clear q0_v13
  have q1_v14 := q1_v13.below bv14 (by omega)
  clear q1_v13
  have q2_v14 := q2_v13.below bv14 (by omega)
  clear q2_v13
  have sg_v14 := sg_v13.below bv14 (by omega)
  clear sg_v13
  clear bv14
  go_wp2_with fail
  refine (eqI Av7 Av14 len2 Cv7 Cv14 x2 _ (q2_v14.rd (by omega)) (u2.rd (by omega)) n2).mono ?_
  rintro e v15 ⟨rfl, bv15⟩
  have zv15 := bv15.size
  have tv15 := tv14.trans (bv15.mono tv14.size)
  clear tv14
  have r0_v15 := r0_v14.below (bv15.mono (by omega))
  clear r0_v14
  have r1_v15 := r1_v14.below (bv15.mono (by omega))
  clear r1_v14
  have r2_v15 := r2_v14.below (bv15.mono (by omega))
  clear r2_v14
  have sw_v15 := sw_v14.below bv15 (by omega)
  clear sw_v14
  have q0_v15 := q0_v14.below bv15 (by omega)
  clear q0_v14
  have q1_v15 := q1_v14.below bv15 (by omega)
  clear q1_v14
  have q2_v15 := q2_v14.below bv15 (by omega)
  clear q2_v14
  have sg_v15 := sg_v14.below bv15 (by omega)
  clear sg_v14
  have u2_v15 := u2.below bv15 (by omega)
  clear u2
  clear bv15
  clear u2_v15
  go_wp2_with fail
  refine (markI Av5 len0 Cv5 x0 _ v4.heap.size v5.heap.size q0_v15 (by omega) (1) n0 (by omega)).mono ?_
  rintro e v16 ⟨rfl, mv16, ⟨rowv16, gv16, hrv16⟩, bv16⟩
  have zv16 := bv16.size
  clear q0_v15
  have tv16 := tv15.trans (bv16.mono (by omega))
  clear tv15
  have r0_v16 := r0_v15.below (bv16.mono (by omega))
  clear r0_v15
  have r1_v16 := r1_v15.below (bv16.mono (by omega))
  clear r1_v15
  have r2_v16 := r2_v15.below (bv16.mono (by omega))
  clear r2_v15
  have sw_v16 := sw_v15.grown gv16 (fun k hk => by have := hrv16 k hk; omega)
  clear sw_v15
  have q1_v16 := q1_v15.grown gv16 (fun k hk => by have := hrv16 k hk; omega)
  clear q1_v15
  have q2_v16 := q2_v15.grown gv16 (fun k hk => by have := hrv16 k hk; omega)
  clear q2_v15
  have sg_v16 := sg_v15.grown gv16 (fun k hk => by have := hrv16 k hk; omega)
  clear sg_v15
  clear gv16 hrv16 bv16
  go_wp2_with fail
  refine (markB Av6 len1 Cv6 x1 _ v5.heap.size v6.heap.size q1_v16 (by omega) (1 + len0) n1 (by omega)).mono ?_
  rintro e v17 ⟨rfl, ⟨ysv17, mv17⟩, ⟨rowv17, gv17, hrv17⟩, bv17⟩
  have zv17 := bv17.size
  clear q1_v16
  have tv17 := tv16.trans (bv17.mono (by omega))
  clear tv16
  have r0_v17 := r0_v16.below (bv17.mono (by omega))
  clear r0_v16
  have r1_v17 := r1_v16.below (bv17.mono (by omega))
  clear r1_v16
  have r2_v17 := r2_v16.below (bv17.mono (by omega))
  clear r2_v16
  have sw_v17 := sw_v16.grown gv17 (fun k hk => by have := hrv17 k hk; omega)
  clear sw_v16
  have q2_v17 := q2_v16.grown gv17 (fun k hk => by have := hrv17 k hk; omega)
  clear q2_v16
  have sg_v17 := sg_v16.grown gv17 (fun k hk => by have := hrv17 k hk; omega)
  clear sg_v16
  have q0_v17 := mv16.grown gv17 (fun k hk => by have := hrv17 k hk; omega)
  clear mv16
  clear gv17 hrv17 bv17
  go_wp2_with fail
  refine (markI Av7 len2 Cv7 x2 _ v6.heap.size v7.heap.size q2_v17 (by omega) (1 + len0 + len1) n2 (by omega)).mono ?_
  rintro e v18 ⟨rfl, mv18, ⟨rowv18, gv18, hrv18⟩, bv18⟩
  have zv18 := bv18.size
  clear q2_v17
  have tv18 := tv17.trans (bv18.mono (by omega))
  clear tv17
  have r0_v18 := r0_v17.below (bv18.mono (by omega))
  clear r0_v17
  have r1_v18 := r1_v17.below (bv18.mono (by omega))
  clear r1_v17
  have r2_v18 := r2_v17.below (bv18.mono (by omega))
  clear r2_v17
  have sw_v18 := sw_v17.grown gv18 (fun k hk => by have := hrv18 k hk; omega)
  clear sw_v17
  have sg_v18 := sg_v17.grown gv18 (fun k hk => by have := hrv18 k hk; omega)
  clear sg_v17
  have q0_v18 := q0_v17.grown gv18 (fun k hk => by have := hrv18 k hk; omega)
  clear q0_v17
  have q1_v18 := mv17.grown gv18 (fun k hk => by have := hrv18 k hk; omega)
  clear mv17
  clear gv18 hrv18 bv18
  go_wp2_with fail
  refine (eqI Av8 Av4 y0.length Cv8 Cv4 y0 _ (sg_v18.rd (by omega)) (sw_v18.rd (by omega)) l0).mono ?_
  rintro e v19 ⟨rfl, bv19⟩
  have zv19 := bv19.size
  have tv19 := tv18.trans (bv19.mono tv18.size)
  clear tv18
  have r0_v19 := r0_v18.below (bv19.mono (by omega))
  clear r0_v18
  have r1_v19 := r1_v18.below (bv19.mono (by omega))
  clear r1_v18
  have r2_v19 := r2_v18.below (bv19.mono (by omega))
  clear r2_v18
  have sw_v19 := sw_v18.below bv19 (by omega)
  clear sw_v18
  have sg_v19 := sg_v18.below bv19 (by omega)
  clear sg_v18
  have q0_v19 := q0_v18.below bv19 (by omega)
  clear q0_v18
  have q1_v19 := q1_v18.below bv19 (by omega)
  clear q1_v18
  have q2_v19 := mv18.below bv19 (by omega)
  clear mv18
  clear bv19
  go_wp2_with fail
  refine (markI Av8 y0.length Cv8 y0 _ v7.heap.size v8.heap.size sg_v19 (by omega) (1) l0 (by omega)).mono ?_
  rintro e v20 ⟨rfl, mv20, ⟨rowv20, gv20, hrv20⟩, bv20⟩
  have zv20 := bv20.size
  clear sg_v19
  have tv20 := tv19.trans (bv20.mono (by omega))
  clear tv19
  have r0_v20 := r0_v19.below (bv20.mono (by omega))
  clear r0_v19
  have r1_v20 := r1_v19.below (bv20.mono (by omega))
  clear r1_v19
  have r2_v20 := r2_v19.below (bv20.mono (by omega))
  clear r2_v19
  have sw_v20 := sw_v19.grown gv20 (fun k hk => by have := hrv20 k hk; omega)
  clear sw_v19
  have q0_v20 := q0_v19.grown gv20 (fun k hk => by have := hrv20 k hk; omega)
  clear q0_v19
  have q1_v20 := q1_v19.grown gv20 (fun k hk => by have := hrv20 k hk; omega)
  clear q1_v19
  have q2_v20 := q2_v19.grown gv20 (fun k hk => by have := hrv20 k hk; omega)
  clear q2_v19
  clear gv20 hrv20 bv20
  go_wp2_with fail
  refine (heldI Av8 y0.length Cv8 _ _ (1) (mv20.rd (Nat.le_refl _)) l0 (by omega)).mono ?_
  rintro e w' ⟨rfl, rfl⟩
  clear q0_v20
  clear q1_v20
  clear q2_v20
  go_wp2_with fail
  refine (toI a0 len0 cap0 x0 _ (r0_v20.more (by omega)) n0).mono ?_
  rintro e v21 ⟨Av21, Cv21, rfl, s0, bv21⟩
  have zv21 := bv21.size
  have tv21 := tv20.trans (bv21.mono tv20.size)
  clear tv20
  have r0_v21 := r0_v20.below (bv21.mono (by omega))
  clear r0_v20
  have r1_v21 := r1_v20.below (bv21.mono (by omega))
  clear r1_v20
  have r2_v21 := r2_v20.below (bv21.mono (by omega))
  clear r2_v20
  have sw_v21 := sw_v20.below bv21 (by omega)
  clear sw_v20
  have sg_v21 := mv20.below bv21 (by omega)
  clear mv20
  clear bv21
  go_wp2_with fail
  refine (toB a1 len1 cap1 x1 _ (r1_v21.more (by omega)) n1).mono ?_
  rintro e v22 ⟨Av22, Cv22, rfl, s1, bv22⟩
  have zv22 := bv22.size
  have tv22 := tv21.trans (bv22.mono tv21.size)
  clear tv21
  have r0_v22 := r0_v21.below (bv22.mono (by omega))
  clear r0_v21
  have r1_v22 := r1_v21.below (bv22.mono (by omega))
  clear r1_v21
  have r2_v22 := r2_v21.below (bv22.mono (by omega))
  clear r2_v21
  have sw_v22 := sw_v21.below bv22 (by omega)
  clear sw_v21
  have sg_v22 := sg_v21.below bv22 (by omega)
  clear sg_v21
  have s0_v22 := s0.below bv22 (by omega)
  clear s0
  clear bv22
  go_wp2_with fail
  refine (toI a2 len2 cap2 x2 _ (r2_v22.more (by omega)) n2).mono ?_
  rintro e v23 ⟨Av23, Cv23, rfl, s2, bv23⟩
  have zv23 := bv23.size
  have tv23 := tv22.trans (bv23.mono tv22.size)
  clear tv22
  have r0_v23 := r0_v22.below (bv23.mono (by omega))
  clear r0_v22
  have r1_v23 := r1_v22.below (bv23.mono (by omega))
  clear r1_v22
  have r2_v23 := r2_v22.below (bv23.mono (by omega))
  clear r2_v22
  have sw_v23 := sw_v22.below bv23 (by omega)
  clear sw_v22
  have sg_v23 := sg_v22.below bv23 (by omega)
  clear sg_v22
  have s0_v23 := s0_v22.below bv23 (by omega)
  clear s0_v22
  have s1_v23 := s1.below bv23 (by omega)
  clear s1
  clear bv23
  go_wp2_with fail
  refine (HI.out Av21 Cv21 Av22 Cv22 Av23 Cv23 _ (s0_v23.rd (by omega)) s0_v23.cap (s1_v23.rd (by omega)) s1_v23.cap (s2.rd (by omega)) s2.cap).mono ?_
  rintro e v24 ⟨Av24, Cv24, rfl, ov24, bv24⟩
  have sh := Seg.of ov24
  clear ov24
  have zv24 := bv24.size
  have tv24 := tv23.trans (bv24.mono tv23.size)
  clear tv23
  have r0_v24 := r0_v23.below (bv24.mono (by omega))
  clear r0_v23
  have r1_v24 := r1_v23.below (bv24.mono (by omega))
  clear r1_v23
  have r2_v24 := r2_v23.below (bv24.mono (by omega))
  clear r2_v23
  have sw_v24 := sw_v23.below bv24 (by omega)
  clear sw_v23
  have sg_v24 := sg_v23.below bv24 (by omega)
  clear sg_v23
  have s0_v24 := s0_v23.below bv24 (by omega)
  clear s0_v23
  have s1_v24 := s1_v23.below bv24 (by omega)
  clear s1_v23
  have s2_v24 := s2.below bv24 (by omega)
  clear s2
  clear bv24
  go_wp2_with fail
  refine (eqI Av24 Av4 y0.length Cv24 Cv4 y0 _ (sh.rd (by omega)) (sw_v24.rd (by omega)) l0).mono ?_
  rintro e v25 ⟨rfl, bv25⟩
  have zv25 := bv25.size
  have tv25 := tv24.trans (bv25.mono tv24.size)
  clear tv24
  have r0_v25 := r0_v24.below (bv25.mono (by omega))
  clear r0_v24
  have r1_v25 := r1_v24.below (bv25.mono (by omega))
  clear r1_v24
  have r2_v25 := r2_v24.below (bv25.mono (by omega))
  clear r2_v24
  have sw_v25 := sw_v24.below bv25 (by omega)
  clear sw_v24
  have sg_v25 := sg_v24.below bv25 (by omega)
  clear sg_v24
  have s0_v25 := s0_v24.below bv25 (by omega)
  clear s0_v24
  have s1_v25 := s1_v24.below bv25 (by omega)
  clear s1_v24
  have s2_v25 := s2_v24.below bv25 (by omega)
  clear s2_v24
  have sh_v25 := sh.below bv25 (by omega)
  clear sh
  clear bv25
  go_wp2_with fail
  refine (heldI Av8 y0.length Cv8 _ _ (1) (sg_v25.rd (Nat.le_refl _)) l0 (by omega)).mono ?_
  rintro e w' ⟨rfl, rfl⟩
  go_wp2
  go_ret
  exact ⟨rfl, tv25⟩

set_option maxRecDepth 100000 in
theorem lifted (os : Os) (started : os.Started) (H : Type) (enc : TypeId × Value → H) :
    ReturnsInHanded {} Try.checked os 11 .any (Rows.fnExactSharePotsSpec.pre6 enc Try.prog Try.f11 Rows.fnExactSharePotsRow.domain false) (Rows.fnExactSharePotsSpec.post enc Try.prog Try.f11 false true false false) := by
  refine returnsInHanded_of_change (C := Try.checked) own started (by kernel_rfl) Try.func11
    (ChangeSpec.witness6 (enc := enc) (C := Try.checked) false ⟨#[], #[.slice none 0 0, .slice none 0 0, .slice none 0 0], []⟩ 8 (by kernel_rfl) (by kernel_rfl) (by kernel_rfl) (by kernel_rfl)) ?_
  intro W base args ds gs before hval0 hW hcnd _
  have hval : ∀ (j : Nat) t v, Try.f11.params[j]? = some t → args[j]? = some v → Value.okWide Try.prog W .any base t v := hval0
  have hW' := hW
  obtain ⟨p, q, hA0, hV, rfl, hfz, hnd⟩ := hW
  have hA : DataW.TrodAll enc Try.prog W 0 (fun _ => true) true Try.f11.params.toList args.toList ds p := hA0
  rw [Try.params11] at hA hval
  obtain ⟨v0, vs0, d0, ds0, p0, q0, hargs, rfl, rfl, h0, r0⟩ := trodAll_cons hA
  obtain ⟨v1, vs1, d1, ds1, p1, q1, rfl, rfl, rfl, h1, r1⟩ := trodAll_cons r0
  obtain ⟨v2, vs2, d2, ds2, p2, q2, rfl, rfl, rfl, h2, r2⟩ := trodAll_cons r1
  obtain ⟨rfl, rfl, rfl⟩ := trodAll_nil r2
  obtain rfl : args = #[v0, v1, v2] := by cases args; simp_all
  obtain ⟨rfl, rfl⟩ := trodVars_none hV
  obtain ⟨a0, len0, cap0, rfl⟩ := okWide_slice Try.underlying35 (hval 0 35 v0 rfl rfl)
  have k0 := h0
  have lt0 : ∀ x ∈ p0, x.block < W.heap.size := by obtain ⟨m, hm⟩ := k0; exact DataW.trod_lt m _ _ _ hm
  obtain ⟨z0, w0⟩ : ∃ zs, IsRow .i64 W a0 len0 cap0 zs := by
    obtain ⟨fuel, hf⟩ := h0
    rcases open_ints Try.underlying35 Try.underlying2 (by kernel_rfl) hf with ⟨hcs, _⟩ | ⟨x, l, c, zs, hcs, _, hl, hm, hz, _, hcell, hwz⟩
    · simp [Value.cells] at hcs
      obtain ⟨rfl, rfl, rfl⟩ := hcs
      exact ⟨[], .inl ⟨rfl, rfl, rfl, rfl⟩⟩
    · simp [Value.cells] at hcs
      obtain ⟨rfl, rfl, rfl⟩ := hcs
      exact ⟨zs, .inr ⟨_, rfl, hl, hm, by simpa using hz, hcell, hwz⟩⟩
  obtain ⟨a1, len1, cap1, rfl⟩ := okWide_slice Try.underlying49 (hval 1 49 v1 rfl rfl)
  have k1 := h1
  have lt1 : ∀ x ∈ p1, x.block < W.heap.size := by obtain ⟨m, hm⟩ := k1; exact DataW.trod_lt m _ _ _ hm
  obtain ⟨z1, w1⟩ : ∃ zs, IsRowB W a1 len1 cap1 zs := by
    obtain ⟨fuel, hf⟩ := h1
    rcases Go.Deep.open_bools Try.underlying49 Try.underlying4 (by kernel_rfl) hf with ⟨hcs, _⟩ | ⟨x, l, c, B, hcs, _, hl, hm, _, hcell⟩
    · simp [Value.cells] at hcs
      obtain ⟨rfl, rfl, rfl⟩ := hcs
      exact ⟨[], isRowB_nil W⟩
    · simp [Value.cells] at hcs
      obtain ⟨rfl, rfl, rfl⟩ := hcs
      exact ⟨_, isRowB_mk hl hm hcell⟩
  obtain ⟨a2, len2, cap2, rfl⟩ := okWide_slice Try.underlying35 (hval 2 35 v2 rfl rfl)
  have k2 := h2
  have lt2 : ∀ x ∈ p2, x.block < W.heap.size := by obtain ⟨m, hm⟩ := k2; exact DataW.trod_lt m _ _ _ hm
  obtain ⟨z2, w2⟩ : ∃ zs, IsRow .i64 W a2 len2 cap2 zs := by
    obtain ⟨fuel, hf⟩ := h2
    rcases open_ints Try.underlying35 Try.underlying2 (by kernel_rfl) hf with ⟨hcs, _⟩ | ⟨x, l, c, zs, hcs, _, hl, hm, hz, _, hcell, hwz⟩
    · simp [Value.cells] at hcs
      obtain ⟨rfl, rfl, rfl⟩ := hcs
      exact ⟨[], .inl ⟨rfl, rfl, rfl, rfl⟩⟩
    · simp [Value.cells] at hcs
      obtain ⟨rfl, rfl, rfl⟩ := hcs
      exact ⟨zs, .inr ⟨_, rfl, hl, hm, by simpa using hz, hcell, hwz⟩⟩
  clear hA0 hval0
  refine (walk a0 len0 cap0 z0 a1 len1 cap1 z1 a2 len2 cap2 z2 W w0 w1 w2).mono fun e W' ⟨he, bel⟩ => ?_
  subst he
  exact ⟨_, rfl, _, _, _, [], _, [], hW', trodAll_mk1 (shut_bool Try.underlying4 _), (trodAll_cons_mk (Below.trod laidOut (by kernel_rfl) (of_decide_eq_true (by kernel_rfl)) k0 bel lt0) (trodAll_cons_mk (Below.trod laidOut (by kernel_rfl) (of_decide_eq_true (by kernel_rfl)) k1 bel lt1) (trodAll_cons_mk (Below.trod laidOut (by kernel_rfl) (of_decide_eq_true (by kernel_rfl)) k2 bel lt2) trodAll_mk0))), rfl, bel.frame _, fun h => by cases h⟩

theorem over : Rows.fnExactSharePotsRow.holds Try.pinned (OpenSpec.ofChange Rows.fnExactSharePotsSpec) :=
  OpenClaim.holds_of_wide 11 Try.f11 rfl rfl rfl rfl rfl rfl rfl ⟨rfl, rfl, rfl, rfl, rfl⟩ rfl rfl rfl rfl rfl (by kernel_rfl) Try.func11 (by kernel_rfl)
    (of_decide_eq_true (by kernel_rfl)) (by unfold Func.isWrapper; first | (rw [if_pos (by decide +kernel)]; kernel_rfl) | (rw [if_neg (by decide +kernel)]; exact ⟨rfl, rfl⟩))
    (fun os started H enc _ => lifted os started H enc)

theorem proved : Rows.FnExactSharePotsSaid :=
  over
#print axioms proved
end Go.Proofs.Ytlfffkjgepgcfaa.fnExactSharePots
