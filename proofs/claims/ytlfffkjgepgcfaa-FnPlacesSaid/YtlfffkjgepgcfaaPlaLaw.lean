/-
  The statement on places, walked. Conditions: those of each theorem.
-/
import Derived.Test.YtlfffkjgepgcfaaPcI
import Derived.Test.YtlfffkjgepgcfaaPzS
import Derived.Test.YtlfffkjgepgcfaaPzI
import Derived.Test.YtlfffkjgepgcfaaPlv
import Derived.Test.YtlfffkjgepgcfaaPlt
import Derived.Test.YtlfffkjgepgcfaaPlk
import Derived.ChangeOld
import Derived.Below
namespace Go.Proofs.Ytlfffkjgepgcfaa.pl
open Go.RowKit
open base mem fl chance byts
open Ieee

set_option maxRecDepth 20000 in
theorem fnPlaces_big (A : Option Addr) (n c : Nat) (A2 : Option Addr) (n2 c2 : Nat) (w : World) (h : 1048576 < n ∨ 1048576 < n2) (hn : n ≤ 9223372036854775807) (hn2 : n2 ≤ 9223372036854775807) :
    Calls Try.prog 13 #[.slice A n c, .slice A2 n2 c2] w fun e w' => e = .returned (.bool true) ∧ Below w.heap.size w w' := by
  have HL := hide (long_big A n c A2 n2 c2 w h hn hn2)
  have HB := hide (Below.refl w.heap.size w)
  clear h
  go_enter Try.func13, Try.ntmps13
  go_wp2_with (go_at_call 43; refine HL.out.mono ?_; rintro e w' ⟨rfl, rfl⟩)
  go_ret
  exact ⟨rfl, HB.out⟩
theorem conv_wd {c d : Nat} (h : floatToFloatBits .f32 c .f64 = some d) : ∀ w, (convert 25 29 (.float .f32 c)).run Try.prog w = .ok (.float .f64 d) w :=
  fun w => run_convert_float_float (P := Try.prog) w 25 29 .f32 .f64 _ _ (by rw [Try.underlying25]; rfl) Try.underlying29 h
/-- two lists that a function makes by appending -/
structure Duo (w0 w : World) (v1 v2 : Value) (xs ys : List Int) : Prop where
  a : Lst w w0.heap.size v1 xs
  b : Lst w w0.heap.size v2 ys
  s12 : mem.Sep v1 v2
  low : Below w0.heap.size w0 w
theorem Duo.push1 {w0 w w' : World} {v1 v2 v1' : Value} {xs ys : List Int} {x : Int} (h : Duo w0 w v1 v2 xs ys) (o : Obj) (ho : Lst w' w0.heap.size v1' (xs ++ [x])) (hg : (w.alloc o).grownBy w' v1.ownBlock)
    (hk : v1'.ownBlock = v1.ownBlock ∨ v1'.ownBlock = some (w.alloc o).heap.size) : Duo w0 w' v1' v2 (xs ++ [x]) ys := by
  have hz : w0.heap.size ≤ (w.alloc o).heap.size := Nat.le_trans h.low.size (by simp)
  exact ⟨ho, (h.b.alloc o).kept hg h.s12.symm, mem.Sep.app h.s12 hk (fun k hk => ((h.b.alloc o).blk k hk).2), (h.low.alloc h.low.size o).trans (Lst.grown (h.a.alloc o) hg hz)⟩
theorem Duo.push2 {w0 w w' : World} {v1 v2 v2' : Value} {xs ys : List Int} {y : Int} (h : Duo w0 w v1 v2 xs ys) (o : Obj) (ho : Lst w' w0.heap.size v2' (ys ++ [y])) (hg : (w.alloc o).grownBy w' v2.ownBlock)
    (hk : v2'.ownBlock = v2.ownBlock ∨ v2'.ownBlock = some (w.alloc o).heap.size) : Duo w0 w' v1 v2' xs (ys ++ [y]) := by
  have hz : w0.heap.size ≤ (w.alloc o).heap.size := Nat.le_trans h.low.size (by simp)
  exact ⟨(h.a.alloc o).kept hg h.s12, ho, (mem.Sep.app h.s12.symm hk (fun k hk => ((h.a.alloc o).blk k hk).2)).symm, (h.low.alloc h.low.size o).trans (Lst.grown (h.b.alloc o) hg hz)⟩

set_option maxRecDepth 20000 in
set_option maxHeartbeats 16000000 in
theorem fnPlaces_any (A : Option Addr) (n c : Nat) (zs : List Int) (A2 : Option Addr) (n2 c2 : Nat) (zs2 : List Int) (w : World) (hY : RdY w w.heap.size A n zs) (hn : n ≤ 1048576) (hY2 : RdY w w.heap.size A2 n2 zs2) (hn2 : n2 ≤ 1048576) :
    Calls Try.prog 13 #[.slice A n c, .slice A2 n2 c2] w fun e w' => e = .returned (.bool true) ∧ Below w.heap.size w w' := by
  have HL := hide (b10Long_any A A2 n c n2 c2 w hn hn2)
  have HA := hide (fun (W : World) (hb : Below w.heap.size w W) (i m : Nat) (hi : i ≤ 1000) (hm : m ≤ 1000) (hm1 : 2 ≤ m) => b10At_val A n c zs w.heap.size i m W (hY.below hb) hn hi hm hm1)
  have HM := hide (fun (W : World) (hb : Below w.heap.size w W) (i m : Nat) (hi : i ≤ 1000) (hm : m ≤ 1000) (hm1 : 2 ≤ m) => b10At_val A2 n2 c2 zs2 w.heap.size i m W (hY2.below hb) hn2 hi hm hm1)
  clear hY hY2
  have hr5 := atN_lt zs2 0 (show 0 < 5 by omega)
  have C0 := hide (HM.out w (Below.refl _ _) 0 5 (by omega) (by omega) (by omega))
  obtain ⟨r5, hr5e⟩ := ex_eq (atN zs2 0 5)
  rw [hr5e] at hr5 C0
  obtain ⟨N, hN⟩ := ex_eq (1 + r5)
  have hN1 : (1 : Int) + (r5 : Int) = (N : Int) := by omega
  have hNlo : 1 ≤ N := by omega
  have hNhi : N ≤ 5 := by omega
  have HT0 := hide (show Duo w ((w.alloc (.cells #[] 2)).alloc (.cells #[] 2)) (.slice (some ⟨w.heap.size, 0, none⟩) 0 0) (.slice (some ⟨w.heap.size + 1, 0, none⟩) 0 0) [] [] from
    ⟨(Lst.new w (Nat.le_refl _)).alloc _, Lst.new' (w.alloc (.cells #[] 2)) (by simp) (by simp), .inr (by simp [Value.ownBlock]), ((Below.refl _ _).alloc (Nat.le_refl _) _).alloc (by simp) _⟩)
  clear hr5e hN hr5
  go_enter Try.func13, Try.ntmps13
  go_upto_region 4 with (first | (go_at_call 43; refine HL.out.mono ?_; rintro e w' ⟨rfl, rfl⟩) | (go_at_call 44; refine C0.out.mono ?_; rintro e w' ⟨rfl, rfl⟩))
  clear HL C0
  clear hN1
  go_wp2
  go_loopw [6, 7, 8] (fun v1 v2 i wr => ∃ k : Nat, k ≤ N ∧ i = .int .i64 k ∧ Hid (Duo w wr v1 v2 (xsT zs k) (psT zs k))) (fun _ _ i _ => N - (intOf i).toNat)
  case atStart => exact ⟨0, Nat.zero_le _, rfl, HT0⟩
  case round =>
    clear HT0
    obtain ⟨k, hk, rfl, HT⟩ := hrel
    by_cases hlt : k < N
    · have hlow := HT.out.low
      have C1 := hide (HA.out wr hlow k 100 (by omega) (by omega) (by omega))
      have C2 := hide (fun W hb => by
        have h := HA.out W hb (10 + k) 50 (by omega) (by omega) (by omega)
        rw [show ((10 + k : Nat) : Int) = 10 + (k : Int) by omega] at h
        exact h)
      have HX1 := hide (xsT_succ zs k)
      have HX2 := hide (psT_succ zs k)
      have hl1 := xsT_len zs k
      have hl2 := psT_len zs k
      have hb1 := atN_lt zs k (m := 100) (by omega)
      have hb2 := atN_lt zs (10 + k) (m := 50) (by omega)
      obtain ⟨a1, e1⟩ := ex_eq (atN zs k 100)
      rw [e1] at C1 HX1 hb1
      obtain ⟨a2, e2⟩ := ex_eq (atN zs (10 + k) 50)
      rw [e2] at C2 HX2 hb2
      obtain ⟨xs, hxs⟩ := ex_eq (xsT zs k)
      obtain ⟨ys, hys⟩ := ex_eq (psT zs k)
      rw [hxs] at HT HX1 hl1
      rw [hys] at HT HX2 hl2
      have hzr := hlow.size
      clear e1 e2 hxs hys hlow
      go_upto_region 10 with (first | (go_at_call 44; refine C1.out.mono ?_; clear C1; rintro e w' ⟨rfl, rfl⟩) | (at_builtin; refine wpList_app rfl (.tmp 43) (.tmp 48) rfl w.heap.size _ xs [1 + (a1 : Int)] rfl (HT.out.a.alloc _) (some ⟨wr.heap.size, 0, none⟩) 1 1 rfl (rd_one wr (1 + (a1 : Int)) 2) (fun h => by cases h) (by omega) (by simp; omega) ?_; intro v4 w4 ho4 hg4 hk4))
      have HT4 := hide (HT.out.push1 _ ho4 hg4 hk4)
      have hz4 := HT4.out.low.size
      have C2 := hide (C2.out w4 HT4.out.low)
      clear ho4 hg4 hk4 HT
      go_wp2_with (first | (go_at_call 44; refine C2.out.mono ?_; clear C2; rintro e w' ⟨rfl, rfl⟩) | (at_builtin; refine wpList_app rfl (.tmp 50) (.tmp 55) rfl w.heap.size _ ys [(a2 : Int)] rfl (HT4.out.b.alloc _) (some ⟨w4.heap.size, 0, none⟩) 1 1 rfl (rd_one w4 (a2 : Int) 2) (fun h => by cases h) (by omega) (by simp; omega) ?_; intro v5 w5 ho5 hg5 hk5))
      have HT5 := hide (HT4.out.push2 _ ho5 hg5 hk5)
      clear ho5 hg5 hk5 HT4
      (try go_wp2)
      go_roundw
      case rel => exact ⟨k + 1, by omega, by go_num, by rw [HX1.out, HX2.out]; exact HT5⟩
      case measure => simp [intOf]; omega
    · obtain rfl : k = N := by omega
      obtain ⟨A5, c5, rfl, ho5⟩ := HT.out.a.formn (xsT_len zs k)
      obtain ⟨A6, c6, rfl, ho6⟩ := HT.out.b.formn (psT_len zs k)
      have HBW := hide (fun W (hb : Below wr.heap.size wr W) => HT.out.low.trans (hb.mono HT.out.low.size))
      have R5 := hide (fun W (hb : Below wr.heap.size wr W) => (ho5.rd.below hb).more hb.size)
      have R5' := R5
      have R6 := hide (fun W (hb : Below wr.heap.size wr W) => (ho6.rd.below hb).more hb.size)
      have hc5 : k ≤ c5 := ho5.cap.1
      have hc6 : k ≤ c6 := ho6.cap.1
      have HG := hide (xsT_good (zs := zs) (n := k) (by omega))
      have hq := xsT_ok (zs := zs) hNlo (by omega)
      have hp := psT_ok (zs := zs) hNlo (by omega)
      have hpo : pcOut (xsT zs k) = plAll (xsT zs k) k := by unfold pcOut; rw [hq, if_pos rfl, xsT_len]
      have hso : psOut (xsT zs k) (psT zs k) = psTo (xsT zs k) (psT zs k) k := by unfold psOut; rw [hp, if_pos rfl, xsT_len]
      have hnum := pcOut_num (xsT zs k)
      rw [hpo] at hnum
      have hpl : (plAll (xsT zs k) k).length = k * k := by rw [plAll_len, xsT_len]
      have hsl : (psTo (xsT zs k) (psT zs k) k).length = k := psTo_len _ _ _
      have hkk : k * k ≤ 25 := Nat.mul_le_mul hNhi hNhi
      obtain ⟨MM, hMM⟩ := ex_eq (k * k)
      rw [hMM] at hpl hkk
      have hMi : (k : Int) * (k : Int) = (MM : Int) := by rw [← hMM]; simp
      have HMM := hide hMM
      have C11 := hide (fun W (hb : Below wr.heap.size wr W) => by
        have h := impl_PlaceChances A5 k c5 (xsT zs k) W (R5.out W hb) (by omega) hc5
        rw [hpo, hq, hpl] at h
        exact h)
      have C12 := hide (fun W (hb : Below wr.heap.size wr W) => by
        have h := impl_PrizeShares A5 k c5 (xsT zs k) A6 k c6 (psT zs k) W (R5.out W hb) (by omega) hc5 (R6.out W hb) (by omega) hc6
        rw [hso, hp, hsl] at h
        exact h)
      have C13 := hide (fun W (hb : Below wr.heap.size wr W) => by
        have h := spec_PlaceChances A5 k c5 (xsT zs k) W (R5.out W hb) (by omega) hc5
        rw [hpo, hq, hpl] at h
        exact h)
      have HNUM := hide hnum
      have HB0 := hide (Below.refl wr.heap.size wr)
      clear hq hp hpo hso hnum hpl hsl hMM ho5 ho6 HT
      go_wp2_with fail
      refine (C11.out _ HB0.out).mono ?_
      rintro e w1 ⟨A9, c9, rfl, ho9, hb9⟩
      go_wp2_with fail
      refine (C12.out _ hb9).mono ?_
      rintro e w2 ⟨A11, c11, rfl, ho11, hb11⟩
      have hb2 := hb9.trans (hb11.mono hb9.size)
      go_wp2_with fail
      refine (C13.out _ hb2).mono ?_
      rintro e w3 ⟨A13, c13, rfl, ho13, hb13⟩
      have hb3 := hb2.trans (hb13.mono hb2.size)
      have HR9 := hide ((((ho9.rd.below hb11).more hb11.size).below hb13).more hb13.size)
      have HR11 := hide ((ho11.rd.below hb13).more hb13.size)
      have HR13 := hide ho13.rd
      have HRP := hide (R6.out w3 hb3)
      have HB3 := hide hb3
      clear ho9 hb9 ho11 hb11 ho13 hb13 hb2 hb3 C11 C12 C13 HB0 R5 R6
      have CL := hide (b10List_any A9 A13 MM c9 c13 _ w3 _ _ HR9.out HR13.out HNUM.out (by omega))
      go_wp2_with (go_at_call 50; refine CL.out.mono ?_; rintro e w4 ⟨rfl, q0, rfl⟩)
      clear CL HR13
      have hxn := xsT_len zs k
      have HXN := hide hxn
      have HXS := hide (xsT_sum (zs := zs) (n := k) (by omega))
      have HTOT := hide (tot_ok (zs := zs) (n := k) hNlo hNhi)
      have HRX := hide (R5'.out w3 HB3.out)
      clear hxn R5'
      go_loopw [15, 16] (fun a i wz => ∃ i' q : Nat, i' ≤ k ∧ i = .int .i64 i' ∧ a = .float .f64 (totW (xsT zs k) (psT zs k) i') ∧ Hid (wz = w3.drewN q)) (fun _ i _ => k - (intOf i).toNat)
      case atStart => exact ⟨0, q0, Nat.zero_le _, rfl, rfl, rfl⟩
      case round =>
        obtain ⟨i, q, hi, rfl, rfl, hw⟩ := hrel
        obtain ⟨wo, rfl⟩ : ∃ wo : World, wo = wr := ⟨_, rfl⟩
        by_cases hlt2 : i < k
        · have hik := Nat.mul_le_mul_right k (show i + 1 ≤ k by omega)
          rw [Nat.add_mul, Nat.one_mul, HMM.out] at hik
          obtain ⟨P, hP⟩ := ex_eq (i * k)
          rw [hP] at hik
          have hPi : (i : Int) * (k : Int) = (P : Int) := by rw [← hP]; simp
          have HP := hide hP
          have HRO := hide (row_ok HG.out (i := i) (by rw [HXN.out]; exact hlt2))
          have HCO := hide (col_ok HG.out (i := i) (by rw [HXN.out]; exact hlt2))
          clear hP
          go_wp2
          go_loop [17, 18, 19] (fun a b j => ∃ l : Nat, l ≤ k ∧ j = .int .i64 l ∧ a = .float .f64 (rowW (xsT zs k) i l) ∧ b = .float .f64 (colW (xsT zs k) i l)) (fun _ _ j => k - (intOf j).toNat)
          case atStart => exact ⟨0, Nat.zero_le _, rfl, rfl, rfl⟩
          case round =>
            obtain ⟨l, hl, rfl, rfl, rfl⟩ := hrel
            by_cases hll : l < k
            · have hlk := Nat.mul_le_mul_right k (show l + 1 ≤ k by omega)
              rw [Nat.add_mul, Nat.one_mul, HMM.out] at hlk
              obtain ⟨Q, hQ⟩ := ex_eq (l * k)
              rw [hQ] at hlk
              have hQi : (l : Int) * (k : Int) = (Q : Int) := by rw [← hQ]; simp
              have hRW : RdF wo w3.heap.size A9 MM (plAll (xsT zs k) k) := by rw [hw.out]; exact HR9.out
              obtain ⟨b, o, rfl, _, hc1⟩ := hRW.at_ (k := P + l) (by omega)
              obtain ⟨b', o', hA2, _, hc2⟩ := hRW.at_ (k := Q + i) (by omega)
              obtain ⟨rfl, rfl⟩ : b = b' ∧ o = o' := by simpa using hA2
              have e1 := plAll_at (xs := xsT zs k) (i := i) (k := l) (by rw [HXN.out]; exact hll) k hlt2
              have e2 := plAll_at (xs := xsT zs k) (i := l) (k := i) (by rw [HXN.out]; exact hlt2) k hll
              rw [HXN.out, HP.out] at e1
              rw [HXN.out, hQ] at e2
              rw [e1] at hc1
              rw [e2] at hc2
              obtain ⟨f1, f2⟩ := HRO.out.2 l (by rw [HXN.out]; exact hll)
              obtain ⟨f3, f4⟩ := HCO.out.2 l (by rw [HXN.out]; exact hll)
              obtain ⟨c1, h1⟩ := ex_eq (PL (xsT zs k) l allL i)
              obtain ⟨c2', h2⟩ := ex_eq (PL (xsT zs k) i allL l)
              rw [h1] at hc1 f1 f2
              rw [h2] at hc2 f3 f4
              obtain ⟨d1, h3⟩ := ex_eq (wd c1)
              obtain ⟨d2, h4⟩ := ex_eq (wd c2')
              rw [h3] at f1 f2
              rw [h4] at f3 f4
              obtain ⟨s1, h5⟩ := ex_eq (rowW (xsT zs k) i l)
              obtain ⟨s2, h6⟩ := ex_eq (colW (xsT zs k) i l)
              obtain ⟨t1, h7⟩ := ex_eq (rowW (xsT zs k) i (l + 1))
              obtain ⟨t2, h8⟩ := ex_eq (colW (xsT zs k) i (l + 1))
              rw [h5, h7] at f2
              rw [h6, h8] at f4
              rw [h5, h6]
              have H7 := hide h7
              have H8 := hide h8
              have r1 := conv_wd f1
              have r2 := conv_wd f3
              have r3 : ∀ w, (binOp .add 29 (.float .f64 s1) (.float .f64 d1)).run Try.prog w = .ok (.float .f64 t1) w := fun w => run_float_arith (P := Try.prog) w .add 29 .f64 _ _ _ f2
              have r4 : ∀ w, (binOp .add 29 (.float .f64 s2) (.float .f64 d2)).run Try.prog w = .ok (.float .f64 t2) w := fun w => run_float_arith (P := Try.prog) w .add 29 .f64 _ _ _ f4
              have g1 : (0 : Int) ≤ (P : Int) + (l : Int) := by omega
              have g2 : (P : Int) + (l : Int) < (MM : Int) := by omega
              have g3 : (0 : Int) ≤ (Q : Int) + (i : Int) := by omega
              have g4 : (Q : Int) + (i : Int) < (MM : Int) := by omega
              clear hRW hA2 e1 e2 f1 f2 f3 f4 h1 h2 h3 h4 h5 h6 h7 h8 hQ
              go_wp2
              go_round
              case rel => exact ⟨l + 1, by omega, by go_num, by rw [H7.out], by rw [H8.out]⟩
              case measure => simp [intOf]; omega
            · obtain rfl : l = k := by omega
              obtain ⟨zr, hzr, hr1, hr2⟩ := HRO.out.1
              obtain ⟨zc, hzc, hc1, hc2⟩ := HCO.out.1
              rw [HXN.out] at hzr hzc
              obtain ⟨t1, ht1, ho1⟩ := near_one hzr hr1 hr2
              obtain ⟨t2, ht2, ho2⟩ := near_one hzc hc1 hc2
              have HG1 := hide (fun V => gapD_any ht1 V)
              have HG2 := hide (fun V => gapD_any ht2 V)
              have ho1' : (FloatKind.f64.format.order t1 4562254508917369340 == some .gt) = false := ho1
              have ho2' : (FloatKind.f64.format.order t2 4562254508917369340 == some .gt) = false := ho2
              obtain ⟨s1, h5⟩ := ex_eq (rowW (xsT zs l) i l)
              obtain ⟨s2, h6⟩ := ex_eq (colW (xsT zs l) i l)
              rw [h5] at HG1 ⊢
              rw [h6] at HG2 ⊢
              clear hzr hr1 hr2 hzc hc1 hc2 ht1 ht2 ho1 ho2 h5 h6 HRO HCO
              go_wp2_with (first | (go_at_call 49; first | (refine (HG1.out _).mono ?_; clear HG1; rintro e w' ⟨rfl, rfl⟩) | (refine (HG2.out _).mono ?_; clear HG2; rintro e w' ⟨rfl, rfl⟩)))
              clear ho1' ho2'
              go_loopw [20] (fun j wz => ∃ m q : Nat, m ≤ l ∧ j = .int .i64 m ∧ Hid (wz = w3.drewN q)) (fun j _ => l - (intOf j).toNat)
              case atStart => exact ⟨0, q, Nat.zero_le _, rfl, hw⟩
              case round =>
                clear hw
                obtain ⟨m, q, hm, rfl, hw⟩ := hrel
                by_cases hlm : m < l
                · have hmk := Nat.mul_le_mul_right l (show m + 1 ≤ l by omega)
                  rw [Nat.add_mul, Nat.one_mul, HMM.out] at hmk
                  obtain ⟨Q, hQ⟩ := ex_eq (m * l)
                  rw [hQ] at hmk
                  have hQi : (m : Int) * (l : Int) = (Q : Int) := by rw [← hQ]; simp
                  have hRW : RdF wr w3.heap.size A9 MM (plAll (xsT zs l) l) := by rw [hw.out]; exact HR9.out
                  have hRX : Rd wr w3.heap.size A5 l (xsT zs l) := by rw [hw.out]; exact HRX.out
                  obtain ⟨b5, o5, rfl, _, hx1⟩ := hRX.at_ hlm
                  obtain ⟨b5', o5', hA5, _, hx2⟩ := hRX.at_ hlt2
                  obtain ⟨rfl, rfl⟩ : b5 = b5' ∧ o5 = o5' := by simpa using hA5
                  have hfo := fun h => first_ok HG.out HXS.out (i := i) (k := m) (by rw [HXN.out]; exact hlt2) (by rw [HXN.out]; exact hlm) h
                  obtain ⟨xm, h1⟩ := ex_eq ((xsT zs l).getD m 0)
                  obtain ⟨xi, h2⟩ := ex_eq ((xsT zs l).getD i 0)
                  rw [h1] at hx1 hfo
                  rw [h2] at hx2 hfo
                  have f1 : (0 : Int) ≤ (m : Int) := by omega
                  have f2 : (m : Int) < (l : Int) := by omega
                  have f3 : (0 : Int) ≤ (i : Int) := by omega
                  have f4 : (i : Int) < (l : Int) := by omega
                  clear h1 h2 hA5 hRX
                  by_cases hgt : xi < xm
                  · have hd : decide (xi < xm) = true := decide_eq_true hgt
                    have hfo := hfo hgt
                    obtain ⟨b, o, rfl, _, hc1⟩ := hRW.at_ (k := P) (by omega)
                    obtain ⟨b', o', hA2, _, hc2⟩ := hRW.at_ (k := Q) (by omega)
                    obtain ⟨rfl, rfl⟩ : b = b' ∧ o = o' := by simpa using hA2
                    have e1 := plAll_at (xs := xsT zs l) (i := i) (k := 0) (by rw [HXN.out]; omega) l hlt2
                    have e2 := plAll_at (xs := xsT zs l) (i := m) (k := 0) (by rw [HXN.out]; omega) l hlm
                    rw [HXN.out, HP.out, Nat.add_zero] at e1
                    rw [HXN.out, hQ, Nat.add_zero] at e2
                    rw [e1] at hc1
                    rw [e2] at hc2
                    obtain ⟨c1, h1⟩ := ex_eq (PL (xsT zs l) 0 allL i)
                    obtain ⟨c2', h2⟩ := ex_eq (PL (xsT zs l) 0 allL m)
                    rw [h1] at hc1 hfo
                    rw [h2] at hc2 hfo
                    have hfo' : (FloatKind.f32.format.order c2' c1 == some .lt) = false := hfo
                    have g1 : (0 : Int) ≤ (P : Int) := by omega
                    have g2 : (P : Int) < (MM : Int) := by omega
                    have g3 : (0 : Int) ≤ (Q : Int) := by omega
                    have g4 : (Q : Int) < (MM : Int) := by omega
                    clear hRW hA2 e1 e2 h1 h2 hfo hQ
                    go_wp2
                    go_quiet (fail)
                    go_wp2
                    go_roundw
                    case rel => exact ⟨m + 1, q + nq, by omega, by go_num, hide (by rw [hw.out, World.drewN_drewN])⟩
                    case measure => simp [intOf]; omega
                  · have hd : decide (xi < xm) = false := decide_eq_false hgt
                    clear hRW hfo hQ
                    go_wp2
                    go_quiet (fail)
                    go_wp2
                    go_roundw
                    case rel => exact ⟨m + 1, q + nq, by omega, by go_num, hide (by rw [hw.out, World.drewN_drewN])⟩
                    case measure => simp [intOf]; omega
                · obtain rfl : m = l := by omega
                  have hRS : RdF wr w3.heap.size A11 m (psTo (xsT zs m) (psT zs m) m) := by rw [hw.out]; exact HR11.out
                  obtain ⟨b, o, rfl, _, hc1⟩ := hRS.at_ hlt2
                  rw [psTo_at hlt2, HXN.out] at hc1
                  obtain ⟨f1, f2⟩ := HTOT.out.2 i hlt2
                  obtain ⟨c1, h1⟩ := ex_eq (prW (xsT zs m) (psT zs m) i m)
                  rw [h1] at hc1 f1 f2
                  obtain ⟨d1, h3⟩ := ex_eq (wd c1)
                  rw [h3] at f1 f2
                  obtain ⟨s1, h5⟩ := ex_eq (totW (xsT zs m) (psT zs m) i)
                  obtain ⟨t1, h7⟩ := ex_eq (totW (xsT zs m) (psT zs m) (i + 1))
                  rw [h5, h7] at f2
                  rw [h5]
                  have H7 := hide h7
                  have r1 := conv_wd f1
                  have r3 : ∀ w, (binOp .add 29 (.float .f64 s1) (.float .f64 d1)).run Try.prog w = .ok (.float .f64 t1) w := fun w => run_float_arith (P := Try.prog) w .add 29 .f64 _ _ _ f2
                  have g1 : (0 : Int) ≤ (i : Int) := by omega
                  have g2 : (i : Int) < (m : Int) := by omega
                  clear hRS f1 f2 h1 h3 h5 h7
                  go_wp2
                  go_roundw
                  case rel => exact ⟨i + 1, q, by omega, by go_num, by rw [H7.out], hw⟩
                  case measure => simp [intOf]; omega
        · obtain rfl : i = k := by omega
          have hsm : ∀ j, -1000000000 ≤ (psT zs i).getD j 0 ∧ (psT zs i).getD j 0 ≤ 1000000000 := fun j => by
            by_cases hj : j < i
            · have := psT_in (zs := zs) hj
              omega
            · have e : (psT zs i).getD j 0 = 0 := by
                have := psT_len zs i
                simp [List.getD, show ¬ j < (psT zs i).length by omega]
              omega
          have CS := hide (b10Sum_any A6 i c6 (psT zs i) w3.heap.size wo (by rw [hw.out]; exact HRP.out.drewN q) (by omega) hsm)
          obtain ⟨gr, gs, gt, t1, t2, t3, t4⟩ := tot_test (zs := zs) (n := i) hNlo hNhi
          have t1' := t1
          unfold psN at t1'
          rw [show FloatKind.f64.nearest (psT zs i).sum = floatOfInt .f64 (psT zs i).sum from rfl] at t1'
          have CG := hide (fun V => gapD_any t1' V)
          clear t1'
          obtain ⟨S, hS⟩ := ex_eq ((psT zs i).sum)
          rw [hS] at CS CG
          obtain ⟨T, hT⟩ := ex_eq (totW (xsT zs i) (psT zs i) i)
          rw [hT] at CG t2 ⊢
          have r1 : ∀ w, (binOp .add 29 (.float .f64 4607182418800017408) (.float .f64 T)).run Try.prog w = .ok (.float .f64 gs) w := fun w => run_float_arith (P := Try.prog) w .add 29 .f64 _ _ _ t2
          have r2 : ∀ w, (binOp .mul 29 (.float .f64 4576918229304087675) (.float .f64 gs)).run Try.prog w = .ok (.float .f64 gt) w := fun w => run_float_arith (P := Try.prog) w .mul 29 .f64 _ _ _ t3
          have t4' : (FloatKind.f64.format.order gr gt == some .gt) = false := t4
          have hlow := bdrewN HB3.out q
          rw [← hw.out] at hlow
          have HLOW := hide hlow
          have CM := hide (HM.out wo (HBW.out wo hlow) 1 50 (by omega) (by omega) (by omega))
          have ha1 := atN_lt zs2 1 (m := 50) (by omega)
          obtain ⟨a1, e1⟩ := ex_eq (atN zs2 1 50)
          rw [e1] at CM ha1
          obtain ⟨bk1, bk2, bk3⟩ := blinds_ok a1 ha1
          have CB := hide (fun (V : World) => by
            have h := impl_BlindSteps (1 + (a1 : Int)) 3 2 10 V
            rw [bk1, bk2] at h
            exact h)
          obtain ⟨BL, hBL⟩ := ex_eq (blOut (1 + (a1 : Int)) 3 2 10)
          rw [hBL] at CB bk2 bk3
          have HBK := hide bk3
          clear hsm t1 t2 t3 t4 hS hT hlow e1 bk1 bk3 hBL HRP HR9 HR11 HTOT HXS HG HNUM HMM hMi HRX HA HM HXN
          go_wp2_with (first | (go_at_call 46; refine CS.out.mono ?_; clear CS; rintro e w' ⟨rfl, rfl⟩) | (go_at_call 49; refine (CG.out _).mono ?_; clear CG; rintro e w' ⟨rfl, rfl⟩) | (go_at_call 44; refine CM.out.mono ?_; clear CM; rintro e w' ⟨rfl, rfl⟩))
          go_wp2_with fail
          refine (CB.out _).mono ?_
          rintro e w5 ⟨A21, c21, rfl, ho21, hb21⟩
          have HFIN := hide (HLOW.out.trans (hb21.mono HLOW.out.size))
          have HRB := hide ho21.rd
          clear ho21 hb21 HLOW CB t4' r1 r2
          go_wp2
          go_loopw [23] (fun j wz => ∃ m q : Nat, m ≤ 9 ∧ j = .int .i64 ((m : Int) + 1) ∧ Hid (wz = w5.drewN q)) (fun j _ => 10 - (intOf j).toNat)
          case atStart => exact ⟨0, 0, Nat.zero_le _, rfl, rfl⟩
          case round =>
            obtain ⟨m, q, hm, rfl, hw5⟩ := hrel
            by_cases hlm : m < 9
            · have hRX : Rd wr w5.heap.size A21 10 BL := by rw [hw5.out]; exact HRB.out
              obtain ⟨b5, o5, rfl, _, hx1⟩ := hRX.at_ (k := m + 1) (by omega)
              obtain ⟨b5', o5', hA5, _, hx2⟩ := hRX.at_ (k := m) (by omega)
              obtain ⟨rfl, rfl⟩ : b5 = b5' ∧ o5 = o5' := by simpa using hA5
              obtain ⟨k1, k2, k3, k4⟩ := HBK.out m hlm
              obtain ⟨x, h1⟩ := ex_eq (BL.getD (m + 1) 0)
              obtain ⟨y, h2⟩ := ex_eq (BL.getD m 0)
              rw [h1] at hx1 k1 k2
              rw [h2] at hx2 k1 k2 k3 k4
              have f0 : (0 : Int) ≤ (m : Int) := by omega
              have f1 : (0 : Int) ≤ (m : Int) + 1 := by omega
              have f2 : (m : Int) + 1 < 10 := by omega
              have f3 : (m : Int) < 10 := by omega
              have d1 : decide (2 * x < 3 * y) = false := decide_eq_false (by omega)
              have d2 : decide (3 * y + 1 < 2 * x) = false := decide_eq_false (by omega)
              clear h1 h2 hA5 hRX hw
              go_wp2
              go_quiet (fail)
              clear d1 d2 k1 k2 k3 k4
              go_wp2
              go_roundw
              case rel => exact ⟨m + 1, q + nq, by omega, by go_num, hide (by rw [hw5.out, World.drewN_drewN])⟩
              case measure => simp [intOf]; omega
            · obtain rfl : m = 9 := by omega
              obtain ⟨an, c1, c2, c3⟩ := hands_same hNlo hNhi
              have CH1 := hide c1
              have CH2 := hide c2
              have CH3 := hide c3
              have HE := hide (show Below w.heap.size w wr by rw [hw5.out]; exact HBW.out _ (bdrewN HFIN.out q))
              clear c1 c2 c3 HRB HBK hw
              go_wp2_with fail
              refine (CH1.out _).mono ?_
              clear CH1
              rintro e w' ⟨rfl, rfl⟩
              go_wp2_with fail
              refine (CH2.out _).mono ?_
              clear CH2
              rintro e w' ⟨rfl, rfl⟩
              go_wp2_with fail
              refine (CH3.out _).mono ?_
              clear CH3
              rintro e w' ⟨rfl, rfl⟩
              go_wp2
              go_ret
              exact ⟨by simp, HE.out⟩
end Go.Proofs.Ytlfffkjgepgcfaa.pl
