/-
  The statement on wins, walked. Conditions: those of each theorem.
-/
import Derived.Test.YtlldocdmjeeaaaaWinQ
import Derived.Test.YtlldocdmjeeaaaaB10
import Derived.Test.YtlldocdmjeeaaaaB10W
namespace Go.Proofs.Ytlldocdmjeeaaaa.hand
open Go.RowKit
open base mem grid

theorem fnWins_long (A : Option Addr) (n c : Nat) (A2 : Option Addr) (n2 c2 : Nat) (w : World) (h : 1048576 < n ∨ 1048576 < n2) (hn : n ≤ 9223372036854775807) (hn2 : n2 ≤ 9223372036854775807) :
    Calls Try.prog 46 #[.slice A n c, .slice A2 n2 c2] w fun e w' => e = .returned (.bool true) ∧ w = w' := by
  by_cases h1 : 1048576 < n
  · have d1 : decide ((1048576 : Int) < (n : Int)) = true := decide_eq_true (by omega)
    go_enter Try.func46, Try.ntmps46
    go_wp2
    go_ret
    exact ⟨rfl, rfl⟩
  · have d1 : decide ((1048576 : Int) < (n : Int)) = false := decide_eq_false (by omega)
    have d2 : decide ((1048576 : Int) < (n2 : Int)) = true := decide_eq_true (by omega)
    go_enter Try.func46, Try.ntmps46
    go_wp2
    go_ret
    exact ⟨rfl, rfl⟩

set_option maxRecDepth 20000 in
theorem fnWins_big (A : Option Addr) (n c : Nat) (A2 : Option Addr) (n2 c2 : Nat) (w : World) (h : 1048576 < n ∨ 1048576 < n2) (hn : n ≤ 9223372036854775807) (hn2 : n2 ≤ 9223372036854775807) :
    Calls Try.prog 15 #[.slice A n c, .slice A2 n2 c2] w fun e w' => e = .returned (.bool true) ∧ Below w.heap.size w w' := by
  have HL := hide (fnWins_long A n c A2 n2 c2 w h hn hn2)
  have HB := hide (Below.refl w.heap.size w)
  clear h
  go_enter Try.func15, Try.ntmps15
  go_wp2_with (go_at_call 46; refine HL.out.mono ?_; rintro e w' ⟨rfl, rfl⟩)
  go_ret
  exact ⟨rfl, HB.out⟩

set_option maxRecDepth 20000 in
set_option maxHeartbeats 16000000 in
theorem fnWins_any (A : Option Addr) (n c : Nat) (zs : List Int) (A2 : Option Addr) (n2 c2 : Nat) (zs2 : List Int) (w : World) (hY : RdY w w.heap.size A n zs) (hn : n ≤ 1048576) (hY2 : RdY w w.heap.size A2 n2 zs2) (hn2 : n2 ≤ 1048576) :
    Calls Try.prog 15 #[.slice A n c, .slice A2 n2 c2] w fun e w' => e = .returned (.bool true) ∧ Below w.heap.size w w' := by
  have HL := hide (b10Long_any A A2 n c n2 c2 w hn hn2)
  have HA := hide (fun (W : World) (hb : Below w.heap.size w W) (i m : Nat) (hi : i ≤ 1000) (hm : m ≤ 1000) (hm1 : 2 ≤ m) => b10At_any A2 n2 c2 zs2 w.heap.size i m W (hY2.below hb) hn2 hi hm hm1)
  have HC := hide (fun (m : Nat) (hm : m ≤ 40) => B10Cards_any A n c zs m w hY hn hm)
  clear hY hY2
  go_enter Try.func15, Try.ntmps15
  go_upto_region 4 with (first | (go_at_call 46; refine HL.out.mono ?_; rintro e w' ⟨rfl, rfl⟩) | (go_at_call 47; refine (HA.out w (Below.refl _ _) 0 2 (by omega) (by omega) (by omega)).mono ?_; rintro e w' ⟨r0, rfl, hr0, rfl⟩))
  obtain ⟨sN, hs2, hs3, es⟩ : ∃ sN : Nat, 2 ≤ sN ∧ sN ≤ 3 ∧ (2 : Int) + (r0 : Int) = (sN : Int) := ⟨2 + r0, by omega, by omega, by omega⟩
  rw [es]
  clear es hr0
  go_upto_region 5 with (go_at_call 47; refine (HA.out w (Below.refl _ _) 1 2 (by omega) (by omega) (by omega)).mono ?_; rintro e w' ⟨r1, rfl, hr1, rfl⟩)
  obtain ⟨kN, hk4, hk5, ek⟩ : ∃ kN : Nat, 4 ≤ kN ∧ kN ≤ 5 ∧ (4 : Int) + (r1 : Int) = (kN : Int) := ⟨4 + r1, by omega, by omega, by omega⟩
  rw [ek]
  clear ek hr1
  obtain ⟨mN, hmN⟩ : ∃ mN : Nat, mN = 2 * sN + kN := ⟨_, rfl⟩
  have hm40 : mN ≤ 40 := by omega
  have hm24 : 2 * sN + 4 ≤ mN := by omega
  have HM := hide hmN
  clear hmN
  go_upto_region 6 with (go_at_call 48; rw [show (2 : Int) * (sN : Int) + (kN : Int) = (mN : Int) by have := HM.out; omega]; refine (HC.out mN hm40).mono ?_; rintro e w1 ⟨A5, c5, cs, rfl, ho5, hf5, hb1⟩)
  have hD : Dealt cs sN kN := ⟨hf5, by rw [ho5.len, HM.out], hs2, by omega, hk4, hk5⟩
  obtain ⟨g5, rfl, hg51, hg52⟩ := ho5.form (by omega)
  have HD := hide hD
  have HO5 := hide ho5
  have HB1 := hide hb1
  have HP0 := hide (PR.new w1)
  have HC0 : Hid (con [] = pairT cs 0) := rfl
  have hz1 := hb1.size
  clear HC HL hf5 ho5 hb1 hD hg51 hm40
  go_wp2
  go_loopw [8, 9] (fun v i wr => ∃ (k : Nat) (ts : List Sl), k ≤ sN ∧ i = .int .i64 k ∧ PR w1 wr v ts ∧ Hid (con ts = pairT cs k) ∧ ts.length = k) (fun _ i _ => sN - (intOf i).toNat)
  case atStart => exact ⟨0, [], Nat.zero_le _, rfl, HP0.out, HC0, rfl⟩
  case round =>
    obtain ⟨k, ts, hk, rfl, hP, hC, hL⟩ := hrel
    have hzr := hP.below.size
    by_cases hlt : k < sN
    · have hRd := HO5.out.rd.below hP.below
      have hcx := hRd.2 (by omega)
      obtain ⟨b, o, eb, hbB, hcell⟩ := hcx
      obtain ⟨rfl, rfl⟩ : g5 = b ∧ 0 = o := by simpa using eb
      have hc1 := hcell (2 * k) (by omega)
      have hc2 := hcell (2 * k + 1) (by omega)
      rw [Nat.zero_add] at hc1 hc2
      have hst := pairT_step cs k
      obtain ⟨x, hx⟩ := ex_eq (cs.getD (2 * k) 0)
      obtain ⟨y, hy⟩ := ex_eq (cs.getD (2 * k + 1) 0)
      rw [hx] at hc1 hst
      rw [hy] at hc2 hst
      have HST := hide hst
      have HP := hide hP
      clear hst hx hy hcell hRd hbB eb hP
      go_upto_region 10 with fail
      have hi0 : (0 : Int) ≤ 2 * (k : Int) := by omega
      have hi1 : (2 : Int) * (k : Int) < (mN : Int) := by omega
      have hi2 : (0 : Int) ≤ 2 * (k : Int) + 1 := by omega
      have hi3 : (2 : Int) * (k : Int) + 1 < (mN : Int) := by omega
      have hw1 : IntKind.i64.wrap (2 * (k : Int)) = 2 * (k : Int) := IntWalk.i64_in _ ⟨by omega, by omega⟩
      have hw2 : IntKind.i64.wrap (2 * (k : Int) + 1) = 2 * (k : Int) + 1 := IntWalk.i64_in _ ⟨by omega, by omega⟩
      have hd1 : wr.cell? ⟨g5, (2 * (k : Int)).toNat, none⟩ = some (.int .i64 x) := by rw [show (2 * (k : Int)).toNat = 2 * k by omega]; exact hc1
      have hd2 : wr.cell? ⟨g5, (2 * (k : Int) + 1).toNat, none⟩ = some (.int .i64 y) := by rw [show (2 * (k : Int) + 1).toNat = 2 * k + 1 by omega]; exact hc2
      have hu := own_pair wr x y wr.heap.size (Nat.le_refl _)
      have hA1 := hide (show LstS (((wr.alloc (.cells #[.int .i64 x, .int .i64 y] 2)).alloc (.cells #[.slice (some ⟨wr.heap.size, 0, none⟩) 2 2] 22)).drewN 1) w1.heap.size u8 ts from World.ownsRow.alloc (World.ownsRow.alloc HP.out.lst _) _)
      have hA2 := rdS_new (wr.alloc (.cells #[.int .i64 x, .int .i64 y] 2)) ⟨some ⟨wr.heap.size, 0, none⟩, 2, 2, [x, y]⟩ (own_ok hu)
      rw [show (wr.alloc (.cells #[.int .i64 x, .int .i64 y] 2)).heap.size = wr.heap.size + 1 by simp] at hA2
      have HA2 := hide hA2
      have hA3 := hide (show ts.length + 1 ≤ 1000000000 by omega)
      have hA4 := hide (show w1.heap.size ≤ (((wr.alloc (.cells #[.int .i64 x, .int .i64 y] 2)).alloc (.cells #[.slice (some ⟨wr.heap.size, 0, none⟩) 2 2] 22)).drewN 1).heap.size from Nat.le_trans hzr (by simp <;> omega))
      have HU := hide (show Own (((wr.alloc (.cells #[.int .i64 x, .int .i64 y] 2)).alloc (.cells #[.slice (some ⟨wr.heap.size, 0, none⟩) 2 2] 22)).drewN 1) wr.heap.size (some ⟨wr.heap.size, 0, none⟩) 2 2 [x, y] from hu.alloc _)
      have HBW := hide (show Below wr.heap.size wr (((wr.alloc (.cells #[.int .i64 x, .int .i64 y] 2)).alloc (.cells #[.slice (some ⟨wr.heap.size, 0, none⟩) 2 2] 22)).drewN 1) from below_drewN (((Below.refl _ _).alloc (Nat.le_refl _) _).alloc (by simp) _) 1)
      clear hc1 hc2 hu hA2
      go_region_law (refine step_appS rfl (.tmp 52) (.tmp 65) rfl w1.heap.size u8 ts [⟨some ⟨wr.heap.size, 0, none⟩, 2, 2, [x, y]⟩] rfl hA1.out (some ⟨wr.heap.size + 1, 0, none⟩) 1 1 rfl HA2.out (fun h => by cases h) hA3.out hA4.out ?_; intro v4 w4 ho4 hg4 hk4)
      all_goals
        have HP4 := hide (HP.out.push HBW.out (u := ⟨some ⟨wr.heap.size, 0, none⟩, 2, 2, [x, y]⟩) HU.out ho4 hg4 hk4)
        clear hw1 hw2 ho4 hg4 hk4 hA1 HA2 hA4 HU HBW hd1 hd2
        go_wp2
        go_roundw
        case rel => exact ⟨k + 1, ts ++ [⟨some ⟨wr.heap.size, 0, none⟩, 2, 2, [x, y]⟩], by omega, by go_num, HP4.out, hide (by rw [con_app, hC.out, HST.out]; rfl), by simp [hL]⟩
        case measure => simp [intOf]; omega
    · obtain rfl : k = sN := by omega
      obtain ⟨A8, c8, rfl, _⟩ := hP.lst.form hL
      have HRS := hide (fun W (hb : Below wr.heap.size wr W) => ((hP.rd hL).below hb).more hb.size)
      have HBR := hide (HB1.out.trans (hP.below.mono hz1))
      have HO5r := hide (HO5.out.rd.below hP.below)
      have HHL := hide hL
      clear hP hL HP0 HC0 hk hlt
      have hq2 : (2 * (k : Int)).toNat = 2 * k := by omega
      have hcp : mN ≤ c5 := HO5.out.cap.1
      have hcm : c5 ≤ 9223372036854775807 := HO5.out.cap.2
      have hRd0 := HO5r.out
      have hR0 : Rd wr w1.heap.size (some ⟨g5, 2 * k, none⟩) kN (cs.drop (2 * k)) := by
        refine ⟨HD.out.board, fun _ => ⟨g5, 2 * k, rfl, hg52, fun i hi => ?_⟩⟩
        obtain ⟨b, o, eb, hbB, hcell⟩ := hRd0.2 (by omega)
        obtain ⟨rfl, rfl⟩ : g5 = b ∧ 0 = o := by simpa using eb
        have h3 := hcell (2 * k + i) (by have := HM.out; omega)
        rw [Nat.zero_add] at h3
        rw [h3]
        congr 2
        simp [List.getD, List.getElem?_drop]
      have hkk : mN - 2 * k = kN := by have := HM.out; omega
      have HR0 := hide hR0
      clear hRd0 hR0
      have hlb := HD.out.board
      obtain ⟨BD, hBD⟩ := ex_eq (cs.drop (2 * k))
      have HBD := hide hBD
      rw [hBD] at HR0 hlb
      have HLB := hide (show ([] ++ BD).length = kN by rw [List.nil_append]; exact hlb)
      have hnc : kN ≤ c5 - 2 * k := by omega
      have hzz : w1.heap.size ≤ (wr.alloc (.cells #[] 2)).heap.size := Nat.le_trans hzr (by simp)
      have HZ := hide hzz
      have HL0 := hide (Lst.new wr (Nat.le_refl wr.heap.size))
      have HBW0 := hide ((Below.refl wr.heap.size wr).alloc (Nat.le_refl _) (.cells #[] 2))
      clear hBD hlb hzz
      go_upto_region 12 with (at_builtin; refine wpList_app rfl (.tmp 67) (.tmp 71) rfl wr.heap.size _ [] BD rfl HL0.out (some ⟨g5, 2 * k, none⟩) kN (c5 - 2 * k) rfl ((HR0.out.alloc hzr _).more HZ.out) (fun h => by cases h) (by simp only [List.length_nil]; omega) (by simp) ?_; intro v2 w2 ho2 hg2 _)
      have hb2 : Below wr.heap.size wr w2 := HBW0.out.trans (Lst.grown HL0.out hg2 (by simp))
      obtain ⟨A10, c10, rfl, ho10⟩ := ho2.formn HLB.out
      rw [List.nil_append] at ho10
      have HO10 := hide ho10
      have HB2 := hide hb2
      have HR2 := hide (HRS.out w2 hb2)
      have hz2 := hb2.size
      have HY2 := hide (show Rd w2 w2.heap.size A10 kN BD from ho10.rd)
      have hc10 : kN ≤ c10 := ho10.cap.1
      have HCI := hide (HD.out.impl A8 c8 ts A10 c10 w2 HR2.out hC.out (by rw [HBD.out]; exact HY2.out) hc10)
      rw [HBD.out] at HCI
      clear ho2 hg2 hb2 ho10 HL0 HBW0 HR0 HZ hnc hcp hcm hq2 hkk
      have hWI := HD.out.wins
      rw [HBD.out] at hWI
      obtain ⟨WW, hWW⟩ := ex_eq (winW (pairT cs k) BD)
      obtain ⟨WT, hWT⟩ := ex_eq (winT (pairT cs k) BD)
      obtain ⟨NN, hNN⟩ := ex_eq (winN (pairT cs k) BD)
      have HCS := hide (fun (W : World) (hR : RdS W W.heap.size A8 k ts) (hY : Rd W W.heap.size A10 kN BD) => by
        have h1 := HD.out.spec A8 c8 ts A10 c10 W hR hC.out (by rw [HBD.out]; exact hY) hc10
        rw [HBD.out, hWW, hWT, hNN] at h1
        exact h1)
      rw [hWW, hWT, hNN] at HCI hWI
      have HWI := hide hWI
      clear hWW hWT hNN hWI
      go_upto_region 13 with (go_at_call 43; refine HCI.out.mono ?_; rintro e w3 ⟨A11, c11, A12, c12, rfl, ho11, ho12, hb3⟩)
      have hz3 := hb3.size
      have HR3 := hide ((HR2.out.below hb3).more hz3)
      have HY3 := hide ((HY2.out.below hb3).more hz3)
      have HB3 := hide (HB2.out.trans (hb3.mono hz2))
      have HU3 := hide ho11.rd
      have HT3 := hide ho12.rd
      have HCS3 := hide (HCS.out w3 HR3.out HY3.out)
      clear ho11 ho12 hb3 HCI HCS
      go_upto_region 14 with (go_at_call 42; refine HCS3.out.mono ?_; rintro e w4 ⟨A15, c15, A16, c16, rfl, ho15, ho16, hb4⟩)
      have hz4 := hb4.size
      have HR4 := hide ((HR3.out.below hb4).more hz4)
      have HY4 := hide ((HY3.out.below hb4).more hz4)
      have HB4 := hide (HB3.out.trans (hb4.mono (Nat.le_trans hz2 hz3)))
      have HU4 := hide ((HU3.out.below hb4).more hz4)
      have HT4 := hide ((HT3.out.below hb4).more hz4)
      have HI1 := hide (b10Ints_same A11 k c11 WW A15 c15 w4.heap.size w4.heap.size w4 HU4.out ho15.rd (by omega))
      have HI2 := hide (fun q => b10Ints_same A12 k c12 WT A16 c16 w4.heap.size w4.heap.size (w4.drewN q) (HT4.out.drewN q) (ho16.rd.drewN q) (by omega))
      clear ho15 ho16 hb4 HCS3 HR2 HR3 HY2 HY3 HU3 HT3 HB3
      go_upto_region 16 with (go_at_call 49; first | (refine HI1.out.mono ?_; clear HI1; rintro e w5 ⟨q1, rfl, rfl⟩) | (refine (HI2.out _).mono ?_; rintro e w5 ⟨q2, rfl, rfl⟩))
      have hb45 : Below w4.heap.size w4 (w4.drewN (q1 + q2)) := below_drewN (Below.refl _ _) (q1 + q2)
      obtain ⟨w5, hw5⟩ : ∃ w5, w5 = w4.drewN (q1 + q2) := ⟨_, rfl⟩
      rw [← hw5] at hb45
      rw [← hw5]
      have hz5 := hb45.size
      have HR5 := hide ((HR4.out.below hb45).more hz5)
      have HY5 := hide ((HY4.out.below hb45).more hz5)
      have HB5 := hide (HB4.out.trans (hb45.mono (Nat.le_trans hz2 (Nat.le_trans hz3 hz4))))
      have HU5 := hide ((HU4.out.below hb45).more hz5)
      have HT5 := hide ((HT4.out.below hb45).more hz5)
      have hwi := HWI.out
      have hs0 : 0 ≤ WW.sum := sum_pos WW (fun i => (hwi.w0 i).1)
      have hn60 : NN ≤ 60 := hwi.n0.2
      have hn00 : 0 ≤ NN := hwi.n0.1
      have ht60 : ∀ i, 0 ≤ WT.getD i 0 ∧ WT.getD i 0 ≤ NN - WW.sum := hwi.t0
      have hu60 : ∀ i, 0 ≤ WW.getD i 0 ∧ WW.getD i 0 ≤ 60 := hwi.w0
      have hts : 2 * (NN - WW.sum) ≤ WT.sum := hwi.ts
      have htl : WT.length = k := hwi.lt
      have hsm : WT.sum ≤ 60 * WT.length := sum_most WT 60 (fun i => by have := (ht60 i).2; omega)
      have hl0 : 0 ≤ NN - WW.sum := by have := ht60 0; omega
      rw [htl] at hsm
      have HSW := hide (b10Sum_any A11 k c11 WW w5.heap.size w5 HU5.out (by omega) (fun i => by have := hu60 i; omega))
      have HST := hide (b10Sum_any A12 k c12 WT w5.heap.size w5 HT5.out (by omega) (fun i => by have := ht60 i; omega))
      obtain ⟨SW, hSW⟩ := ex_eq WW.sum
      obtain ⟨SP, hSP⟩ := ex_eq WT.sum
      rw [hSW] at hs0 ht60 hts hl0 HSW
      rw [hSP] at hts hsm HST
      have HT60 := hide ht60
      have HU60 := hide hu60
      clear hw5 HI2 HR4 HY4 HB4 HU4 HT4 hb45 hwi htl hSW hSP ht60 hu60
      go_upto_region 17 with (go_at_call 51; refine HSW.out.mono ?_; rintro e w' ⟨rfl, rfl⟩)
      obtain ⟨LF, hLF⟩ := ex_eq (NN - SW)
      rw [hLF] at hts hl0 HT60
      rw [hLF]
      have hlf : LF ≤ 60 := by omega
      clear hLF HSW
      go_wp2
      go_loop [124] (fun i => ∃ j : Nat, j ≤ k ∧ i = .int .i64 j) (fun i => k - (intOf i).toNat)
      case atStart => exact ⟨0, Nat.zero_le _, rfl⟩
      case round =>
        obtain ⟨j, hj, rfl⟩ := hrel
        by_cases hlt : j < k
        · obtain ⟨b1, o1, rfl, _, hc1⟩ := HU5.out.at_ hlt
          obtain ⟨b2, o2, rfl, _, hc2⟩ := HT5.out.at_ hlt
          have h1 := HU60.out j
          have h2 := HT60.out j
          obtain ⟨x, hx⟩ := ex_eq (WW.getD j 0)
          obtain ⟨y, hy⟩ := ex_eq (WT.getD j 0)
          rw [hx] at hc1 h1
          rw [hy] at hc2 h2
          have d1 : decide (x < 0) = false := decide_eq_false (by omega)
          have d2 : decide (y < 0) = false := decide_eq_false (by omega)
          have d3 : decide (LF < y) = false := decide_eq_false (by omega)
          clear hx hy h1 h2
          go_wp2
          go_round
          case rel => exact ⟨j + 1, by omega, by go_num⟩
          case measure => simp [intOf]; omega
        · obtain rfl : j = k := by omega
          clear hlt hj
          have d1 : decide (SP < 2 * LF) = false := decide_eq_false (by omega)
          have hz6 : w.heap.size ≤ w5.heap.size := Nat.le_trans HBR.out.size (Nat.le_trans hz2 (Nat.le_trans hz3 (Nat.le_trans hz4 hz5)))
          have hb5 : Below w.heap.size w w5 := HBR.out.trans (HB5.out.mono HBR.out.size)
          have HB := hide hb5
          clear hb5
          go_upto_region 25 with (go_at_call 51; refine HST.out.mono ?_; rintro e w' ⟨rfl, rfl⟩)
          have HA2 := hide (HA.out w5 HB.out 2 256 (by omega) (by omega) (by omega))
          have HA3 := hide (HA.out w5 HB.out 3 256 (by omega) (by omega) (by omega))
          have HA4 := hide (HA.out w5 HB.out 4 4 (by omega) (by omega) (by omega))
          clear HST HT60 HU60 HA d1 hts hsm hlf hl0
          go_upto_region 26 with (go_at_call 47; first | (refine HA2.out.mono ?_; clear HA2; rintro e w' ⟨r2, rfl, hr2, rfl⟩) | (refine HA3.out.mono ?_; clear HA3; rintro e w' ⟨r3, rfl, hr3, rfl⟩))
          obtain ⟨sd, hsd, esd⟩ : ∃ sd : Nat, Hid (sd < 4294967296) ∧ (1000 : Int) * (r2 : Int) + (r3 : Int) = (sd : Int) := ⟨1000 * r2 + r3, hide (by omega), by omega⟩
          rw [esd]
          clear esd hr2 hr3
          obtain ⟨b, o, rfl, hbB⟩ := (show ∃ b o, A10 = some ⟨b, o, none⟩ ∧ b < w5.heap.size by obtain ⟨b, o, e, h, _⟩ := HY5.out.2 (by omega); exact ⟨b, o, e, h⟩)
          go_upto_region 27 with (go_at_call 47; refine HA4.out.mono ?_; clear HA4; rintro e w' ⟨f, rfl, hf, rfl⟩; have hfc : f ≤ c10 := by omega)
          have hFl : (BD.take f).length = f := by rw [List.length_take, HY5.out.len]; omega
          have HRF := hide (HY5.out.take (show f ≤ kN by omega))
          have hFe : (cs.drop (2 * j)).take f = BD.take f := by rw [HBD.out]
          obtain ⟨FW, hFW⟩ := ex_eq (BD.take f)
          rw [hFW] at HRF hFl hFe
          have HLF := hide (show ([] ++ FW).length = f by rw [List.nil_append]; exact hFl)
          have HFE := hide hFe
          have HL0 := hide (Lst.new w5 (Nat.le_refl w5.heap.size))
          have HBW0 := hide ((Below.refl w5.heap.size w5).alloc (Nat.le_refl _) (.cells #[] 2))
          clear hFl hFe hFW
          go_upto_region 28 with (at_builtin; refine wpList_app rfl (.tmp 163) (.tmp 164) rfl w5.heap.size _ [] FW rfl HL0.out (some ⟨b, o, none⟩) f c10 rfl ((HRF.out.alloc (Nat.le_refl _) _).more (by simp)) (fun h => by cases h) (by simp only [List.length_nil]; omega) (by simp) ?_; intro v6 w6 ho6 hg6 _)
          have hb6 : Below w5.heap.size w5 w6 := HBW0.out.trans (Lst.grown HL0.out hg6 (by simp))
          have hz7 := hb6.size
          obtain ⟨A22, c22, rfl, ho22⟩ := ho6.formn HLF.out
          rw [List.nil_append] at ho22
          have HR6 := hide ((HR5.out.below hb6).more hz7)
          have HY6 := hide (show Rd w6 w6.heap.size A22 f FW from ho22.rd)
          have HB6 := hide (HB.out.trans (hb6.mono hz6))
          have hfd := HD.out.drawn f (by omega) sd hsd.out
          have HNO := hide ho22.nilc
          have hc22 : f ≤ c22 := ho22.cap.1
          rw [HFE.out] at hfd
          obtain ⟨DW, hDW⟩ := ex_eq (drwW (pairT cs j) FW (sd : Int) 6)
          obtain ⟨DT, hDT⟩ := ex_eq (drwT (pairT cs j) FW (sd : Int) 6)
          obtain ⟨DN, hDN⟩ := ex_eq (drwN (pairT cs j) FW (sd : Int) 6)
          have HCI := hide (show _ from by
            have h1 := HD.out.implD f sd (by omega) hsd.out A8 c8 ts A22 c22 w6 HR6.out hC.out (by rw [HFE.out]; exact HY6.out) hc22 HNO.out
            rw [HFE.out, hDW, hDT, hDN] at h1
            exact h1)
          have HCS := hide (fun (W : World) (hR : RdS W W.heap.size A8 j ts) (hY : Rd W W.heap.size A22 f FW) => by
            have h1 := HD.out.specD f sd (by omega) hsd.out A8 c8 ts A22 c22 W hR hC.out (by rw [HFE.out]; exact hY) hc22 HNO.out
            rw [HFE.out, hDW, hDT, hDN] at h1
            exact h1)
          rw [hDW, hDT] at hfd
          have HFD := hide hfd
          clear hDW hDT hDN hfd ho6 hg6 hb6 ho22 HRF HLF HL0 HBW0 HR5 HB HO10
          go_upto_region 29 with (go_at_call 45; refine HCI.out.mono ?_; rintro e w7 ⟨A23, c23, A24, c24, rfl, ho23, ho24, hb7⟩)
          have hz8 := hb7.size
          have HR7 := hide ((HR6.out.below hb7).more hz8)
          have HY7 := hide ((HY6.out.below hb7).more hz8)
          have HB7 := hide (HB6.out.trans (hb7.mono (Nat.le_trans hz6 hz7)))
          have HU7 := hide ho23.rd
          have HT7 := hide ho24.rd
          have HCS7 := hide (HCS.out w7 HR7.out HY7.out)
          clear ho23 ho24 hb7 HCI HCS HR6 HY6
          go_upto_region 30 with (go_at_call 44; refine HCS7.out.mono ?_; rintro e w8 ⟨A27, c27, A28, c28, rfl, ho27, ho28, hb8⟩)
          have hz9 := hb8.size
          have HB8 := hide (HB7.out.trans (hb8.mono (Nat.le_trans hz6 (Nat.le_trans hz7 hz8))))
          have HU8 := hide ((HU7.out.below hb8).more hz9)
          have HT8 := hide ((HT7.out.below hb8).more hz9)
          have HI1 := hide (b10Ints_same A23 j c23 DW A27 c27 w8.heap.size w8.heap.size w8 HU8.out ho27.rd (by omega))
          have HI2 := hide (fun q => b10Ints_same A24 j c24 DT A28 c28 w8.heap.size w8.heap.size (w8.drewN q) (HT8.out.drewN q) (ho28.rd.drewN q) (by omega))
          have HS8 := hide (fun (W : World) (hb : Below w8.heap.size w8 W) => b10Sum_any A23 j c23 DW w8.heap.size W (HU8.out.below hb) (by omega) (fun i => by have := HFD.out.w0 i; omega))
          have hs6 := HFD.out.sum
          have HBF := hide (fun q => HB8.out.trans ((below_drewN (Below.refl w8.heap.size w8) q).mono (Nat.le_trans hz6 (Nat.le_trans hz7 (Nat.le_trans hz8 hz9)))))
          obtain ⟨SD, hSD⟩ := ex_eq DW.sum
          rw [hSD] at hs6 HS8
          have d6 : decide (SD ≤ 6) = true := decide_eq_true hs6
          clear ho27 ho28 hb8 HCS7 HR7 HY7 HU7 HT7 HB7 hSD
          go_wp2_with (first | (go_at_call 49; first | (refine HI1.out.mono ?_; clear HI1; rintro e w9 ⟨q1, rfl, rfl⟩) | (refine (HI2.out _).mono ?_; clear HI2; rintro e w9 ⟨q2, rfl, rfl⟩)) | (go_at_call 51; refine (HS8.out _ (by first | exact below_drewN (Below.refl _ _) _ | exact below_drewN (below_drewN (Below.refl _ _) _) _)).mono ?_; rintro e w9 ⟨rfl, rfl⟩))
          go_ret
          exact ⟨rfl, HBF.out _⟩

end Go.Proofs.Ytlldocdmjeeaaaa.hand
