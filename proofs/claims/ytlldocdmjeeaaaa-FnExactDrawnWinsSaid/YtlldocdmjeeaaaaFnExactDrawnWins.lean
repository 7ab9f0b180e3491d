/-
  The statement FnExactDrawnWins is proved: the Go function loop.example/g01401 laws.FnExactDrawnWins answers true for every input and leaves its arguments as they were. Conditions: none.
-/
import Derived.Test.YtlldocdmjeeaaaaRows
import Derived.WalkKit
import Derived.ProofKit
import Derived.OpenShut
import Derived.WalkLawsBesides
import Derived.Deep.Grids
import Derived.Deep.Matrix
import Derived.Test.YtlldocdmjeeaaaaLawM
import Derived.Test.YtlldocdmjeeaaaaLaw2
import Derived.Test.YtlldocdmjeeaaaaDrwS
import Derived.Test.YtlldocdmjeeaaaaDrwI
import Derived.ChangeOld
import Derived.Below
import Derived.ShutString
namespace Go.Proofs.Ytlldocdmjeeaaaa.fnExactDrawnWins
open Go.ChangeShapes Go.WideShapes Go.ChangeAt Go.RowKit
set_option linter.unusedVariables false

open base mem grid hand
theorem own : ownKnob Try.prog.godebug = none := by kernel_rfl
theorem laidOut : laidOutB Try.prog = true := by kernel_rfl

/-- what the walk is told of a slice of integers that came in -/
def IsRow (k : IntKind) (w : World) (a : Option Addr) (len cap : Nat) (zs : List Int) : Prop :=
  (a = none ∧ len = 0 ∧ cap = 0 ∧ zs = []) ∨ ∃ x, a = some x ∧ len ≤ cap ∧ cap ≤ maxLen ∧ zs.length = cap ∧ (∀ i, i < zs.length → w.cell? (x.add i) = some (.int k (zs.getD i 0))) ∧ ∀ n ∈ zs, (Lit.int k n).wf = true

set_option maxRecDepth 100000 in
set_option maxHeartbeats 4000000 in
theorem walk (a0 : Option Addr) (len0 cap0 : Nat) (z0 : List Sl) (a1 : Option Addr) (len1 cap1 : Nat) (z1 : List Int) (a2 : Int) (a3 : Int) (w : World) (w0 : IsRows w a0 len0 cap0 z0) (w1 : IsRow .i64 w a1 len1 cap1 z1) (w2 : (Lit.int .i64 a2).wf = true) (w3 : (Lit.int .i64 a3).wf = true) :
    Calls Try.prog 13 #[.slice a0 len0 cap0, .slice a1 len1 cap1, .int .i64 a2, .int .i64 a3] w fun e w' => e = .returned (.bool true) ∧ Below w.heap.size w w' := by
  by_cases big1 : 1048576 < len1
  · clear w0 w1
    go_enter Try.func13, Try.ntmps13
    go_wp2
    go_ret
    exact ⟨rfl, Below.refl _ _⟩
  have n1 : len1 ≤ 1048576 := by omega
  obtain ⟨r0, c0, bl0, br0⟩ := w0
  have HZ0 := hide (szInt64SS_any a0 len0 cap0 z0 w _ r0 bl0 br0)
  clear bl0 br0
  by_cases big0 : 1048576 < len0 + tot z0
  · go_enter Try.func13, Try.ntmps13
    go_wp2_with fail
    refine HZ0.out.mono ?_
    rintro e w' ⟨⟨rz, rfl, h1, h2⟩, rfl⟩
    have hneg : rz < 0 := by omega
    clear h1 h2
    go_wp2
    go_ret
    exact ⟨rfl, Below.refl _ _⟩
  have nn0 : len0 + tot z0 ≤ 1048576 := by omega
  have n0 : len0 ≤ 1048576 := by omega
  obtain ⟨x0, e0⟩ := ex_eq (con z0)
  have T0 : totL x0 ≤ 1048576 := by rw [← rd_tot r0 e0]; omega
  have M0 := totL_rows T0
  obtain ⟨r1, c1, _⟩ := rd_of_row w1
  generalize hx1 : z1.take len1 = x1 at r1
  clear w1 hx1
  have HS := hide (fun (A0 : Option Addr) (C0 : Nat) (U0 : List Sl) (A1 : Option Addr) (C1 : Nat) (V : World) (h0 : RdS V V.heap.size A0 len0 U0) (k0 : con U0 = x0) (h1 : Rd V V.heap.size A1 len1 x1) (k1 : len1 ≤ C1) (q1 : A1 = none → C1 = 0) => spec_DrawnWins A0 len0 C0 U0 x0 A1 len1 C1 x1 a2 a3 V h0 k0 n0 M0 h1 n1 k1 q1)
  have HI := hide (fun (A0 : Option Addr) (C0 : Nat) (U0 : List Sl) (A1 : Option Addr) (C1 : Nat) (V : World) (h0 : RdS V V.heap.size A0 len0 U0) (k0 : con U0 = x0) (h1 : Rd V V.heap.size A1 len1 x1) (k1 : len1 ≤ C1) (q1 : A1 = none → C1 = 0) => impl_DrawnWins A0 len0 C0 U0 x0 A1 len1 C1 x1 a2 a3 V h0 k0 n0 M0 h1 n1 k1 q1)
  have l0 : ((drwW x0 x1 a2 a3)).length ≤ 1048576 := drwW_len x0 x1 a2 a3
  have l1 : ((drwT x0 x1 a2 a3)).length ≤ 1048576 := drwT_len x0 x1 a2 a3
  generalize (drwW x0 x1 a2 a3) = y0 at HS HI l0
  generalize (drwT x0 x1 a2 a3) = y1 at HS HI l1
  generalize (drwN x0 x1 a2 a3) = y2 at HS HI
  generalize drwOk x0 x1 a2 a3 = y3 at HS HI
  go_enter Try.func13, Try.ntmps13
  go_wp2_with fail
  refine HZ0.out.mono ?_
  rintro e w' ⟨⟨rz0, rfl, h1, h2⟩, rfl⟩
  have hrz0 : 0 ≤ rz0 := h2 nn0
  clear h1 h2
  go_wp2_with fail
  refine (toM a0 len0 cap0 z0 x0 _ (r0.more (by omega)) e0 n0 M0).mono ?_
  rintro e v1 ⟨Av1, Cv1, Uv1, rfl, p0, Ev1, bv1⟩
  have zv1 := bv1.size
  have tv1 := bv1
  have r0_v1 := r0.below (bv1.mono (by omega))
  clear r0
  have r1_v1 := r1.below (bv1.mono (by omega))
  clear r1
  clear bv1
  go_wp2_with fail
  refine (toI a1 len1 cap1 x1 _ (r1_v1.more (by omega)) n1).mono ?_
  rintro e v2 ⟨Av2, Cv2, rfl, p1, bv2⟩
  have zv2 := bv2.size
  have tv2 := tv1.trans (bv2.mono tv1.size)
  clear tv1
  have r0_v2 := r0_v1.below (bv2.mono (by omega))
  clear r0_v1
  have r1_v2 := r1_v1.below (bv2.mono (by omega))
  clear r1_v1
  have p0_v2 := p0.below bv2 (by omega)
  clear p0
  clear bv2
  go_wp2_with fail
  refine (HS.out Av1 Cv1 Uv1 Av2 Cv2 _ (p0_v2.rd (by omega)) Ev1 (p1.rd (by omega)) p1.cap p1.1.nilc).mono ?_
  rintro e v3 ⟨Av3, Cv3, Dv3, Fv3, rfl, ov3, oov3, sw_sep, bv3⟩
  have sw := Seg.of ov3
  have swx := Seg.of oov3
  clear ov3 oov3
  have zv3 := bv3.size
  have tv3 := tv2.trans (bv3.mono tv2.size)
  clear tv2
  have r0_v3 := r0_v2.below (bv3.mono (by omega))
  clear r0_v2
  have r1_v3 := r1_v2.below (bv3.mono (by omega))
  clear r1_v2
  have p0_v3 := p0_v2.below bv3 (by omega)
  clear p0_v2
  have p1_v3 := p1.below bv3 (by omega)
  clear p1
  clear bv3
  clear p0_v3
  clear p1_v3
  go_wp2_with fail
  refine (toM a0 len0 cap0 z0 x0 _ (r0_v3.more (by omega)) e0 n0 M0).mono ?_
  rintro e v4 ⟨Av4, Cv4, Uv4, rfl, q0, Ev4, bv4⟩
  have zv4 := bv4.size
  have tv4 := tv3.trans (bv4.mono tv3.size)
  clear tv3
  have r0_v4 := r0_v3.below (bv4.mono (by omega))
  clear r0_v3
  have r1_v4 := r1_v3.below (bv4.mono (by omega))
  clear r1_v3
  have sw_v4 := sw.below bv4 (by omega)
  clear sw
  have swx_v4 := swx.below bv4 (by omega)
  clear swx
  clear bv4
  go_wp2_with fail
  refine (toI a1 len1 cap1 x1 _ (r1_v4.more (by omega)) n1).mono ?_
  rintro e v5 ⟨Av5, Cv5, rfl, q1, bv5⟩
  have zv5 := bv5.size
  have tv5 := tv4.trans (bv5.mono tv4.size)
  clear tv4
  have r0_v5 := r0_v4.below (bv5.mono (by omega))
  clear r0_v4
  have r1_v5 := r1_v4.below (bv5.mono (by omega))
  clear r1_v4
  have sw_v5 := sw_v4.below bv5 (by omega)
  clear sw_v4
  have swx_v5 := swx_v4.below bv5 (by omega)
  clear swx_v4
  have q0_v5 := q0.below bv5 (by omega)
  clear q0
  clear bv5
  go_wp2_with fail
  refine (HI.out Av4 Cv4 Uv4 Av5 Cv5 _ (q0_v5.rd (by omega)) Ev4 (q1.rd (by omega)) q1.cap q1.1.nilc).mono ?_
  rintro e v6 ⟨Av6, Cv6, Dv6, Fv6, rfl, ov6, oov6, sg_sep, bv6⟩
  have sg := Seg.of ov6
  have sgx := Seg.of oov6
  clear ov6 oov6
  have zv6 := bv6.size
  have tv6 := tv5.trans (bv6.mono tv5.size)
  clear tv5
  have r0_v6 := r0_v5.below (bv6.mono (by omega))
  clear r0_v5
  have r1_v6 := r1_v5.below (bv6.mono (by omega))
  clear r1_v5
  have sw_v6 := sw_v5.below bv6 (by omega)
  clear sw_v5
  have swx_v6 := swx_v5.below bv6 (by omega)
  clear swx_v5
  have q0_v6 := q0_v5.below bv6 (by omega)
  clear q0_v5
  have q1_v6 := q1.below bv6 (by omega)
  clear q1
  clear bv6
  go_wp2_with fail
  refine (eqI Av6 Av3 y0.length Cv6 Cv3 y0 _ (sg.rd (by omega)) (sw_v6.rd (by omega)) l0).mono ?_
  rintro e v7 ⟨rfl, bv7⟩
  have zv7 := bv7.size
  have tv7 := tv6.trans (bv7.mono tv6.size)
  clear tv6
  have r0_v7 := r0_v6.below (bv7.mono (by omega))
  clear r0_v6
  have r1_v7 := r1_v6.below (bv7.mono (by omega))
  clear r1_v6
  have sw_v7 := sw_v6.below bv7 (by omega)
  clear sw_v6
  have swx_v7 := swx_v6.below bv7 (by omega)
  clear swx_v6
  have q0_v7 := q0_v6.below bv7 (by omega)
  clear q0_v6
  have q1_v7 := q1_v6.below bv7 (by omega)
  clear q1_v6
  have sg_v7 := sg.below bv7 (by omega)
  clear sg
  have sgx_v7 := sgx.below bv7 (by omega)
  clear sgx
  clear bv7
  go_wp2_with fail
  refine (eqI Dv6 Dv3 y1.length Fv6 Fv3 y1 _ (sgx_v7.rd (by omega)) (swx_v7.rd (by omega)) l1).mono ?_
  rintro e v8 ⟨rfl, bv8⟩
  have zv8 := bv8.size
  have tv8 := tv7.trans (bv8.mono tv7.size)
  clear tv7
  have r0_v8 := r0_v7.below (bv8.mono (by omega))
  clear r0_v7
  have r1_v8 := r1_v7.below (bv8.mono (by omega))
  clear r1_v7
  have sw_v8 := sw_v7.below bv8 (by omega)
  clear sw_v7
  have swx_v8 := swx_v7.below bv8 (by omega)
  clear swx_v7
  have q0_v8 := q0_v7.below bv8 (by omega)
  clear q0_v7
  have q1_v8 := q1_v7.below bv8 (by omega)
  clear q1_v7
  have sg_v8 := sg_v7.below bv8 (by omega)
  clear sg_v7
  have sgx_v8 := sgx_v7.below bv8 (by omega)
  clear sgx_v7
  clear bv8
  go_wp2_with fail
  refine (toM a0 len0 cap0 z0 x0 _ (r0_v8.more (by omega)) e0 n0 M0).mono ?_
  rintro e v9 ⟨Av9, Cv9, Uv9, rfl, u0, Ev9, bv9⟩
  have zv9 := bv9.size
  have tv9 := tv8.trans (bv9.mono tv8.size)
  clear tv8
  have r0_v9 := r0_v8.below (bv9.mono (by omega))
  clear r0_v8
  have r1_v9 := r1_v8.below (bv9.mono (by omega))
  clear r1_v8
  have sw_v9 := sw_v8.below bv9 (by omega)
  clear sw_v8
  have swx_v9 := swx_v8.below bv9 (by omega)
  clear swx_v8
  have q0_v9 := q0_v8.below bv9 (by omega)
  clear q0_v8
  have q1_v9 := q1_v8.below bv9 (by omega)
  clear q1_v8
  have sg_v9 := sg_v8.below bv9 (by omega)
  clear sg_v8
  have sgx_v9 := sgx_v8.below bv9 (by omega)
  clear sgx_v8
  clear bv9
  go_wp2_with fail
  refine (eqM Av4 Av9 len0 Cv4 Cv9 Uv4 Uv9 x0 _ (q0_v9.rd (by omega)) (u0.rd (by omega)) Ev4 Ev9 n0 M0).mono ?_
  rintro e v10 ⟨rfl, bv10⟩
  have zv10 := bv10.size
  have tv10 := tv9.trans (bv10.mono tv9.size)
  clear tv9
  have r0_v10 := r0_v9.below (bv10.mono (by omega))
  clear r0_v9
  have r1_v10 := r1_v9.below (bv10.mono (by omega))
  clear r1_v9
  have sw_v10 := sw_v9.below bv10 (by omega)
  clear sw_v9
  have swx_v10 := swx_v9.below bv10 (by omega)
  clear swx_v9
  have q0_v10 := q0_v9.below bv10 (by omega)
  clear q0_v9
  have q1_v10 := q1_v9.below bv10 (by omega)
  clear q1_v9
  have sg_v10 := sg_v9.below bv10 (by omega)
  clear sg_v9
  have sgx_v10 := sgx_v9.below bv10 (by omega)
  clear sgx_v9
  have u0_v10 := u0.below bv10 (by omega)
  clear u0
  clear bv10
  clear u0_v10
  go_wp2_with fail
  refine (toI a1 len1 cap1 x1 _ (r1_v10.more (by omega)) n1).mono ?_
  rintro e v11 ⟨Av11, Cv11, rfl, u1, bv11⟩
  have zv11 := bv11.size
  have tv11 := tv10.trans (bv11.mono tv10.size)
  clear tv10
  have r0_v11 := r0_v10.below (bv11.mono (by omega))
  clear r0_v10
  have r1_v11 := r1_v10.below (bv11.mono (by omega))
  clear r1_v10
  have sw_v11 := sw_v10.below bv11 (by omega)
  clear sw_v10
  have swx_v11 := swx_v10.below bv11 (by omega)
  clear swx_v10
  have q0_v11 := q0_v10.below bv11 (by omega)
  clear q0_v10
  have q1_v11 := q1_v10.below bv11 (by omega)
  clear q1_v10
  have sg_v11 := sg_v10.below bv11 (by omega)
  clear sg_v10
  have sgx_v11 := sgx_v10.below bv11 (by omega)
  clear sgx_v10
  clear bv11
  go_wp2_with fail
  refine (eqI Av5 Av11 len1 Cv5 Cv11 x1 _ (q1_v11.rd (by omega)) (u1.rd (by omega)) n1).mono ?_
  rintro e v12 ⟨rfl, bv12⟩
  have zv12 := bv12.size
  have tv12 := tv11.trans (bv12.mono tv11.size)
  clear tv11
  have r0_v12 := r0_v11.below (bv12.mono (by omega))
  clear r0_v11
  have r1_v12 := r1_v11.below (bv12.mono (by omega))
  clear r1_v11
  have sw_v12 := sw_v11.below bv12 (by omega)
  clear sw_v11
  have swx_v12 := swx_v11.below bv12 (by omega)
  clear swx_v11
  have q0_v12 := q0_v11.below bv12 (by omega)
  clear q0_v11
  have q1_v12 := q1_v11.below bv12 (by omega)
  clear q1_v11
  have sg_v12 := sg_v11.below bv12 (by omega)
  clear sg_v11
  have sgx_v12 := sgx_v11.below bv12 (by omega)
  clear sgx_v11
  have u1_v12 := u1.below bv12 (by omega)
  clear u1
  clear bv12
  clear u1_v12
  go_wp2_with fail
  refine (markM Av4 len0 Cv4 Uv4 x0 _ v3.heap.size v4.heap.size q0_v12 Ev4 (1) n0 (by omega)).mono ?_
  rintro e v13 ⟨rfl, ⟨Uv13, mv13, ttv13, hmv13⟩, Gv13⟩
  have zv13 : v12.heap.size ≤ v13.heap.size := Nat.le_of_eq Gv13.1.symm
  clear q0_v12
  have tv13 := tv12.trans (Gv13.below.mono (by omega))
  clear tv12
  have r0_v13 := r0_v12.below (Gv13.below.mono (by omega))
  clear r0_v12
  have r1_v13 := r1_v12.below (Gv13.below.mono (by omega))
  clear r1_v12
  have sw_v13 := Seg.apart sw_v12 Gv13 (by omega)
  clear sw_v12
  have swx_v13 := Seg.apart swx_v12 Gv13 (by omega)
  clear swx_v12
  have q1_v13 := Seg.apart q1_v12 Gv13 (by omega)
  clear q1_v12
  have sg_v13 := Seg.apart sg_v12 Gv13 (by omega)
  clear sg_v12
  have sgx_v13 := Seg.apart sgx_v12 Gv13 (by omega)
  clear sgx_v12
  clear Gv13
  go_wp2_with fail
  refine (markI Av5 len1 Cv5 x1 _ v4.heap.size v5.heap.size q1_v13 (by omega) (1 + totL x0) n1 (by omega)).mono ?_
  rintro e v14 ⟨rfl, mv14, ⟨rowv14, gv14, hrv14⟩, bv14⟩
  have zv14 := bv14.size
  clear q1_v13
  have tv14 := tv13.trans (bv14.mono (by omega))
  clear tv13
  have r0_v14 := r0_v13.below (bv14.mono (by omega))
  clear r0_v13
  have r1_v14 := r1_v13.below (bv14.mono (by omega))
  clear r1_v13
  have sw_v14 := sw_v13.grown gv14 (fun k hk => by have := hrv14 k hk; omega)
  clear sw_v13
  have swx_v14 := swx_v13.grown gv14 (fun k hk => by have := hrv14 k hk; omega)
  clear swx_v13
  have sg_v14 := sg_v13.grown gv14 (fun k hk => by have := hrv14 k hk; omega)
  clear sg_v13
  have sgx_v14 := sgx_v13.grown gv14 (fun k hk => by have := hrv14 k hk; omega)
  clear sgx_v13
  have q0_v14 := mv13.grown gv14 (fun k hk => by have := hrv14 k hk; omega)
  clear mv13
  clear gv14 hrv14 bv14
  go_wp2_with fail
  refine (eqI Av6 Av3 y0.length Cv6 Cv3 y0 _ (sg_v14.rd (by omega)) (sw_v14.rd (by omega)) l0).mono ?_
  rintro e v15 ⟨rfl, bv15⟩
  have zv15 := bv15.size
  have tv15 := tv14.trans (bv15.mono tv14.size)
  clear tv14
  have r0_v15 := r0_v14.below (bv15.mono (by omega))
  clear r0_v14
  have r1_v15 := r1_v14.below (bv15.mono (by omega))
  clear r1_v14
  have sw_v15 := sw_v14.below bv15 (by omega)
  clear sw_v14
  have swx_v15 := swx_v14.below bv15 (by omega)
  clear swx_v14
  have sg_v15 := sg_v14.below bv15 (by omega)
  clear sg_v14
  have sgx_v15 := sgx_v14.below bv15 (by omega)
  clear sgx_v14
  have q0_v15 := q0_v14.below bv15 (by omega)
  clear q0_v14
  have q1_v15 := mv14.below bv15 (by omega)
  clear mv14
  clear bv15
  go_wp2_with fail
  refine (eqI Dv6 Dv3 y1.length Fv6 Fv3 y1 _ (sgx_v15.rd (by omega)) (swx_v15.rd (by omega)) l1).mono ?_
  rintro e v16 ⟨rfl, bv16⟩
  have zv16 := bv16.size
  have tv16 := tv15.trans (bv16.mono tv15.size)
  clear tv15
  have r0_v16 := r0_v15.below (bv16.mono (by omega))
  clear r0_v15
  have r1_v16 := r1_v15.below (bv16.mono (by omega))
  clear r1_v15
  have sw_v16 := sw_v15.below bv16 (by omega)
  clear sw_v15
  have swx_v16 := swx_v15.below bv16 (by omega)
  clear swx_v15
  have sg_v16 := sg_v15.below bv16 (by omega)
  clear sg_v15
  have sgx_v16 := sgx_v15.below bv16 (by omega)
  clear sgx_v15
  have q0_v16 := q0_v15.below bv16 (by omega)
  clear q0_v15
  have q1_v16 := q1_v15.below bv16 (by omega)
  clear q1_v15
  clear bv16
  go_wp2_with fail
  refine (markIx Av6 y0.length Cv6 y0 _ v5.heap.size v6.heap.size sg_v16 (by omega) (1) l0 (by omega)).mono ?_
  rintro e v17 ⟨rfl, mv17, gxv17, ⟨rowv17, gv17, hrv17⟩, bv17⟩
  have zv17 := bv17.size
  clear sg_v16
  have tv17 := tv16.trans (bv17.mono (by omega))
  clear tv16
  have r0_v17 := r0_v16.below (bv17.mono (by omega))
  clear r0_v16
  have r1_v17 := r1_v16.below (bv17.mono (by omega))
  clear r1_v16
  have sw_v17 := sw_v16.grown gv17 (fun k hk => by have := hrv17 k hk; omega)
  clear sw_v16
  have swx_v17 := swx_v16.grown gv17 (fun k hk => by have := hrv17 k hk; omega)
  clear swx_v16
  have sgx_v17 := Seg.aside sgx_v16 gxv17 sg_sep.symm
  clear sgx_v16
  have q0_v17 := q0_v16.grown gv17 (fun k hk => by have := hrv17 k hk; omega)
  clear q0_v16
  have q1_v17 := q1_v16.grown gv17 (fun k hk => by have := hrv17 k hk; omega)
  clear q1_v16
  clear gv17 hrv17 bv17 gxv17
  go_wp2_with fail
  refine (markIx Dv6 y1.length Fv6 y1 _ v5.heap.size v6.heap.size sgx_v17 (by omega) (1 + y0.length) l1 (by omega)).mono ?_
  rintro e v18 ⟨rfl, mv18, gxv18, ⟨rowv18, gv18, hrv18⟩, bv18⟩
  have zv18 := bv18.size
  clear sgx_v17
  have tv18 := tv17.trans (bv18.mono (by omega))
  clear tv17
  have r0_v18 := r0_v17.below (bv18.mono (by omega))
  clear r0_v17
  have r1_v18 := r1_v17.below (bv18.mono (by omega))
  clear r1_v17
  have sw_v18 := sw_v17.grown gv18 (fun k hk => by have := hrv18 k hk; omega)
  clear sw_v17
  have swx_v18 := swx_v17.grown gv18 (fun k hk => by have := hrv18 k hk; omega)
  clear swx_v17
  have q0_v18 := q0_v17.grown gv18 (fun k hk => by have := hrv18 k hk; omega)
  clear q0_v17
  have q1_v18 := q1_v17.grown gv18 (fun k hk => by have := hrv18 k hk; omega)
  clear q1_v17
  have sg_v18 := Seg.aside mv17 gxv18 sg_sep
  clear mv17
  clear gv18 hrv18 bv18 gxv18
  go_wp2_with fail
  refine (heldI Av6 y0.length Cv6 _ _ (1) (sg_v18.rd (Nat.le_refl _)) l0 (by omega)).mono ?_
  rintro e w' ⟨rfl, rfl⟩
  go_wp2_with fail
  refine (heldI Dv6 y1.length Fv6 _ _ (1 + y0.length) (mv18.rd (Nat.le_refl _)) l1 (by omega)).mono ?_
  rintro e w' ⟨rfl, rfl⟩
  clear q0_v18
  clear q1_v18
  go_wp2_with fail
  refine (toM a0 len0 cap0 z0 x0 _ (r0_v18.more (by omega)) e0 n0 M0).mono ?_
  rintro e v19 ⟨Av19, Cv19, Uv19, rfl, s0, Ev19, bv19⟩
  have zv19 := bv19.size
  have tv19 := tv18.trans (bv19.mono tv18.size)
  clear tv18
  have r0_v19 := r0_v18.below (bv19.mono (by omega))
  clear r0_v18
  have r1_v19 := r1_v18.below (bv19.mono (by omega))
  clear r1_v18
  have sw_v19 := sw_v18.below bv19 (by omega)
  clear sw_v18
  have swx_v19 := swx_v18.below bv19 (by omega)
  clear swx_v18
  have sg_v19 := sg_v18.below bv19 (by omega)
  clear sg_v18
  have sgx_v19 := mv18.below bv19 (by omega)
  clear mv18
  clear bv19
  go_wp2_with fail
  refine (toI a1 len1 cap1 x1 _ (r1_v19.more (by omega)) n1).mono ?_
  rintro e v20 ⟨Av20, Cv20, rfl, s1, bv20⟩
  have zv20 := bv20.size
  have tv20 := tv19.trans (bv20.mono tv19.size)
  clear tv19
  have r0_v20 := r0_v19.below (bv20.mono (by omega))
  clear r0_v19
  have r1_v20 := r1_v19.below (bv20.mono (by omega))
  clear r1_v19
  have sw_v20 := sw_v19.below bv20 (by omega)
  clear sw_v19
  have swx_v20 := swx_v19.below bv20 (by omega)
  clear swx_v19
  have sg_v20 := sg_v19.below bv20 (by omega)
  clear sg_v19
  have sgx_v20 := sgx_v19.below bv20 (by omega)
  clear sgx_v19
  have s0_v20 := s0.below bv20 (by omega)
  clear s0
  clear bv20
  go_wp2_with fail
  refine (HI.out Av19 Cv19 Uv19 Av20 Cv20 _ (s0_v20.rd (by omega)) Ev19 (s1.rd (by omega)) s1.cap s1.1.nilc).mono ?_
  rintro e v21 ⟨Av21, Cv21, Dv21, Fv21, rfl, ov21, oov21, sh_sep, bv21⟩
  have sh := Seg.of ov21
  have shx := Seg.of oov21
  clear ov21 oov21
  have zv21 := bv21.size
  have tv21 := tv20.trans (bv21.mono tv20.size)
  clear tv20
  have r0_v21 := r0_v20.below (bv21.mono (by omega))
  clear r0_v20
  have r1_v21 := r1_v20.below (bv21.mono (by omega))
  clear r1_v20
  have sw_v21 := sw_v20.below bv21 (by omega)
  clear sw_v20
  have swx_v21 := swx_v20.below bv21 (by omega)
  clear swx_v20
  have sg_v21 := sg_v20.below bv21 (by omega)
  clear sg_v20
  have sgx_v21 := sgx_v20.below bv21 (by omega)
  clear sgx_v20
  have s0_v21 := s0_v20.below bv21 (by omega)
  clear s0_v20
  have s1_v21 := s1.below bv21 (by omega)
  clear s1
  clear bv21
  go_wp2_with fail
  refine (eqI Av21 Av3 y0.length Cv21 Cv3 y0 _ (sh.rd (by omega)) (sw_v21.rd (by omega)) l0).mono ?_
  rintro e v22 ⟨rfl, bv22⟩
  have zv22 := bv22.size
  have tv22 := tv21.trans (bv22.mono tv21.size)
  clear tv21
  have r0_v22 := r0_v21.below (bv22.mono (by omega))
  clear r0_v21
  have r1_v22 := r1_v21.below (bv22.mono (by omega))
  clear r1_v21
  have sw_v22 := sw_v21.below bv22 (by omega)
  clear sw_v21
  have swx_v22 := swx_v21.below bv22 (by omega)
  clear swx_v21
  have sg_v22 := sg_v21.below bv22 (by omega)
  clear sg_v21
  have sgx_v22 := sgx_v21.below bv22 (by omega)
  clear sgx_v21
  have s0_v22 := s0_v21.below bv22 (by omega)
  clear s0_v21
  have s1_v22 := s1_v21.below bv22 (by omega)
  clear s1_v21
  have sh_v22 := sh.below bv22 (by omega)
  clear sh
  have shx_v22 := shx.below bv22 (by omega)
  clear shx
  clear bv22
  go_wp2_with fail
  refine (eqI Dv21 Dv3 y1.length Fv21 Fv3 y1 _ (shx_v22.rd (by omega)) (swx_v22.rd (by omega)) l1).mono ?_
  rintro e v23 ⟨rfl, bv23⟩
  have zv23 := bv23.size
  have tv23 := tv22.trans (bv23.mono tv22.size)
  clear tv22
  have r0_v23 := r0_v22.below (bv23.mono (by omega))
  clear r0_v22
  have r1_v23 := r1_v22.below (bv23.mono (by omega))
  clear r1_v22
  have sw_v23 := sw_v22.below bv23 (by omega)
  clear sw_v22
  have swx_v23 := swx_v22.below bv23 (by omega)
  clear swx_v22
  have sg_v23 := sg_v22.below bv23 (by omega)
  clear sg_v22
  have sgx_v23 := sgx_v22.below bv23 (by omega)
  clear sgx_v22
  have s0_v23 := s0_v22.below bv23 (by omega)
  clear s0_v22
  have s1_v23 := s1_v22.below bv23 (by omega)
  clear s1_v22
  have sh_v23 := sh_v22.below bv23 (by omega)
  clear sh_v22
  have shx_v23 := shx_v22.below bv23 (by omega)
  clear shx_v22
  clear bv23
  go_wp2_with fail
  refine (heldI Av6 y0.length Cv6 _ _ (1) (sg_v23.rd (Nat.le_refl _)) l0 (by omega)).mono ?_
  rintro e w' ⟨rfl, rfl⟩
  go_wp2_with fail
  refine (heldI Dv6 y1.length Fv6 _ _ (1 + y0.length) (sgx_v23.rd (Nat.le_refl _)) l1 (by omega)).mono ?_
  rintro e w' ⟨rfl, rfl⟩
  go_wp2
  go_ret
  exact ⟨rfl, tv23⟩

set_option maxRecDepth 100000 in
theorem lifted (os : Os) (started : os.Started) (H : Type) (enc : TypeId × Value → H) :
    ReturnsInHanded {} Try.checked os 13 .any (Rows.fnExactDrawnWinsSpec.pre6 enc Try.prog Try.f13 Rows.fnExactDrawnWinsRow.domain false) (Rows.fnExactDrawnWinsSpec.post enc Try.prog Try.f13 false true false false) := by
  refine returnsInHanded_of_change (C := Try.checked) own started (by kernel_rfl) Try.func13
    (ChangeSpec.witness6 (enc := enc) (C := Try.checked) false ⟨#[], #[.slice none 0 0, .slice none 0 0, .int .i64 0, .int .i64 0], []⟩ 8 (by kernel_rfl) (by kernel_rfl) (by kernel_rfl) (by kernel_rfl)) ?_
  intro W base args ds gs before hval0 hW hcnd _
  have hval : ∀ (j : Nat) t v, Try.f13.params[j]? = some t → args[j]? = some v → Value.okWide Try.prog W .any base t v := hval0
  have hW' := hW
  obtain ⟨p, q, hA0, hV, rfl, hfz, hnd⟩ := hW
  have hA : DataW.TrodAll enc Try.prog W 0 (fun _ => true) true Try.f13.params.toList args.toList ds p := hA0
  rw [Try.params13] at hA hval
  obtain ⟨v0, vs0, d0, ds0, p0, q0, hargs, rfl, rfl, h0, r0⟩ := trodAll_cons hA
  obtain ⟨v1, vs1, d1, ds1, p1, q1, rfl, rfl, rfl, h1, r1⟩ := trodAll_cons r0
  obtain ⟨v2, vs2, d2, ds2, p2, q2, rfl, rfl, rfl, h2, r2⟩ := trodAll_cons r1
  obtain ⟨v3, vs3, d3, ds3, p3, q3, rfl, rfl, rfl, h3, r3⟩ := trodAll_cons r2
  obtain ⟨rfl, rfl, rfl⟩ := trodAll_nil r3
  obtain rfl : args = #[v0, v1, v2, v3] := by cases args; simp_all
  obtain ⟨rfl, rfl⟩ := trodVars_none hV
  obtain ⟨a0, len0, cap0, rfl⟩ := okWide_slice Try.underlying32 (hval 0 32 v0 rfl rfl)
  have k0 := h0
  have lt0 : ∀ x ∈ p0, x.block < W.heap.size := by obtain ⟨m, hm⟩ := k0; exact DataW.trod_lt m _ _ _ hm
  obtain ⟨z0, w0⟩ : ∃ zs, IsRows W a0 len0 cap0 zs := by
    obtain ⟨fuel, hf⟩ := h0
    rcases Go.Deep.open_int_rows Try.underlying32 Try.underlying22 Try.underlying2 (by kernel_rfl) (by kernel_rfl) hf with ⟨hcs, _⟩ | ⟨x, l, c, A, L, C, Z, hcs, _, hl, hm, _, hrows⟩
    · simp [Value.cells] at hcs
      obtain ⟨rfl, rfl, rfl⟩ := hcs
      exact ⟨[], isRows_nil W⟩
    · simp [Value.cells] at hcs
      obtain ⟨rfl, rfl, rfl⟩ := hcs
      exact ⟨_, isRows_mk hl hm (fun r hr => by
        obtain ⟨h1, h2, h3, h4, _, h6, h7⟩ := hrows r hr
        exact ⟨h1, h2, h3, h4, h6, fun a' e => (h7 a' e).2⟩)⟩
  obtain ⟨a1, len1, cap1, rfl⟩ := okWide_slice Try.underlying22 (hval 1 22 v1 rfl rfl)
  have k1 := h1
  have lt1 : ∀ x ∈ p1, x.block < W.heap.size := by obtain ⟨m, hm⟩ := k1; exact DataW.trod_lt m _ _ _ hm
  obtain ⟨z1, w1⟩ : ∃ zs, IsRow .i64 W a1 len1 cap1 zs := by
    obtain ⟨fuel, hf⟩ := h1
    rcases open_ints Try.underlying22 Try.underlying2 (by kernel_rfl) hf with ⟨hcs, _⟩ | ⟨x, l, c, zs, hcs, _, hl, hm, hz, _, hcell, hwz⟩
    · simp [Value.cells] at hcs
      obtain ⟨rfl, rfl, rfl⟩ := hcs
      exact ⟨[], .inl ⟨rfl, rfl, rfl, rfl⟩⟩
    · simp [Value.cells] at hcs
      obtain ⟨rfl, rfl, rfl⟩ := hcs
      exact ⟨zs, .inr ⟨_, rfl, hl, hm, by simpa using hz, hcell, hwz⟩⟩
  obtain ⟨a2, rfl, rfl, rfl, w2⟩ := open_int Try.underlying2 (hval 2 2 v2 rfl rfl) h2
  obtain ⟨a3, rfl, rfl, rfl, w3⟩ := open_int Try.underlying2 (hval 3 2 v3 rfl rfl) h3
  clear hA0 hval0
  refine (walk a0 len0 cap0 z0 a1 len1 cap1 z1 a2 a3 W w0 w1 w2 w3).mono fun e W' ⟨he, bel⟩ => ?_
  subst he
  exact ⟨_, rfl, _, _, _, [], _, [], hW', trodAll_mk1 (shut_bool Try.underlying4 _), (trodAll_cons_mk (Below.trod laidOut (by kernel_rfl) (of_decide_eq_true (by kernel_rfl)) k0 bel lt0) (trodAll_cons_mk (Below.trod laidOut (by kernel_rfl) (of_decide_eq_true (by kernel_rfl)) k1 bel lt1) (trodAll_cons_mk (shut_int Try.underlying2 w2) (trodAll_cons_mk (shut_int Try.underlying2 w3) trodAll_mk0)))), rfl, bel.frame _, fun h => by cases h⟩

theorem over : Rows.fnExactDrawnWinsRow.holds Try.pinned (OpenSpec.ofChange Rows.fnExactDrawnWinsSpec) :=
  OpenClaim.holds_of_wide 13 Try.f13 rfl rfl rfl rfl rfl rfl rfl ⟨rfl, rfl, rfl, rfl, rfl⟩ rfl rfl rfl rfl rfl (by kernel_rfl) Try.func13 (by kernel_rfl)
    (of_decide_eq_true (by kernel_rfl)) (by unfold Func.isWrapper; first | (rw [if_pos (by decide +kernel)]; kernel_rfl) | (rw [if_neg (by decide +kernel)]; exact ⟨rfl, rfl⟩))
    (fun os started H enc _ => lifted os started H enc)

theorem proved : Rows.FnExactDrawnWinsSaid :=
  over
#print axioms proved
end Go.Proofs.Ytlldocdmjeeaaaa.fnExactDrawnWins
