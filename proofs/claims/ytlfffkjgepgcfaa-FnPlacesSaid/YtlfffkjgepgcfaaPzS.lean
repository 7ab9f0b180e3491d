/-
  The reference's PrizeShares answers what Pz tells. Conditions: those of each theorem.
-/
import Derived.Test.YtlfffkjgepgcfaaPz
import Derived.Deep.QuietTactic
namespace Go.Proofs.Ytlfffkjgepgcfaa.pl
open Go.RowKit
open base mem fl chance
open Ieee

set_option maxRecDepth 10000 in
set_option maxHeartbeats 8000000 in
theorem spec_PrizeShares (A : Option Addr) (n c : Nat) (xs : List Int) (A2 : Option Addr) (m c2 : Nat) (ps : List Int) (w : World) (hR : Rd w w.heap.size A n xs) (hn : n ≤ 1048576) (hnc : n ≤ c) (hR2 : Rd w w.heap.size A2 m ps) (hm : m ≤ 1048576) (_hmc : m ≤ c2) :
    Calls Try.prog 34 #[.slice A n c, .slice A2 m c2] w fun e w' => ∃ A' c', e = .returned (.tuple #[.slice A' (psOut xs ps).length c', .bool (psOk xs ps)]) ∧ OwnF w' w.heap.size A' (psOut xs ps).length c' (psOut xs ps) ∧ Below w.heap.size w w' := by
  have HT := hide (spec_PlaceChances A n c xs w hR hn hnc)
  by_cases hq : sqOk xs = true ∧ m = n
  rotate_left
  · have hK : psOk xs ps = false := by
      unfold psOk
      rw [hR.len, hR2.len]
      rcases Decidable.em (sqOk xs = true) with h | h
      · have : ¬ m = n := fun e => hq ⟨h, e⟩
        simp [this]
      · simp [h]
    have hO : psOut xs ps = [] := by simp [psOut, hK]
    rw [hO, hK]
    have HQ := hide hq
    obtain ⟨E, hE⟩ := ex_eq (sqOk xs)
    rw [hE] at HT HQ
    clear hO hK hE hq hR hR2
    go_enter Try.func34, Try.ntmps34
    go_wp2_with fail
    refine HT.out.mono ?_
    rintro e w1 ⟨A1, c1, rfl, _, hb⟩
    clear HT
    cases E
    · go_wp2
      go_ret2
      exact ⟨none, 0, rfl, OwnF.nil _ _, hb⟩
    · have hmn : ((m : Int) != (n : Int)) = true := by
        rw [bne_iff_ne]
        intro e
        exact HQ.out ⟨rfl, by omega⟩
      go_wp2
      go_ret2
      exact ⟨none, 0, rfl, OwnF.nil _ _, hb⟩
  · obtain ⟨hq1, rfl⟩ := hq
    obtain ⟨g, hx1⟩ := sqOk_good hq1
    have hO0 : pcOut xs = plAll xs m := by simp [pcOut, hq1, hR.len]
    have hfew := g.few
    have hxn := hR.len
    have hpn := hR2.len
    have HK := hide (show psOk xs ps = !badB 1000000 0 ps by unfold psOk; rw [hq1, hxn, hpn]; simp)
    have HO := hide (show psOut xs ps = if badB 1000000 0 ps then [] else psTo xs ps m by unfold psOut; rw [HK.out, hxn]; cases badB 1000000 0 ps <;> rfl)
    obtain ⟨OK, hOK⟩ := ex_eq (psOk xs ps)
    obtain ⟨OUT, hOUT⟩ := ex_eq (psOut xs ps)
    rw [hOK] at HK ⊢
    rw [hOUT] at HO ⊢
    rw [hO0, hq1, plAll_len, hxn] at HT
    rw [hxn] at hfew hx1
    have HXN := hide hxn
    have HPN := hide hpn
    clear hO0 hOK hOUT hxn hpn hq1 hR
    have hmm : m * m ≤ 36 := Nat.mul_le_mul hfew hfew
    obtain ⟨MM, hMM⟩ := ex_eq (m * m)
    rw [hMM] at HT hmm
    have HMM := hide hMM
    clear hMM
    go_enter Try.func34, Try.ntmps34
    go_wp2_with fail
    refine HT.out.mono ?_
    rintro e w1 ⟨A1, c1, rfl, ho1, hb1⟩
    have hz1 := hb1.size
    have hP := ho1.rd
    have hR3 := hR2.below hb1
    clear HT hR2
    generalize hG : w1.heap.size = G at *
    have HG := hide hG
    have hz : G ≤ w1.heap.size := by omega
    clear hG
    go_wp2
    have HB0 := hide ((Below.refl G w1).alloc hz (.cells #[] 25))
    have HN0 := hide (LstF.new w1 hz)
    go_loopw [9, 10] (fun v i wz => ∃ i' : Nat, i' ≤ m ∧ i = .int .i64 i' ∧ Hid (LstF wz G v (psTo xs ps i')) ∧ Below G w1 wz ∧ Hid (0 < i' → ∀ j, j < m → inB (ps.getD j 0) 0 1000000 = true)) (fun _ i _ => m - (intOf i).toNat)
    case atStart => exact ⟨0, Nat.zero_le _, rfl, HN0, HB0.out, fun h => absurd h (by omega)⟩
    case round =>
      clear HB0 HN0
      obtain ⟨i, hi, rfl, HN, hbr, HI⟩ := hrel
      by_cases hlt : i < m
      · clear HI
        go_wp2
        go_loopw [11, 36] (fun a j wz => ∃ k : Nat, k ≤ m ∧ j = .int .i64 k ∧ a = .float .f32 (prW xs ps i k) ∧ Hid (LstF wz G u9 (psTo xs ps i)) ∧ Below G w1 wz ∧ Hid (∀ j, j < k → inB (ps.getD j 0) 0 1000000 = true)) (fun _ j _ => m - (intOf j).toNat)
        case atStart => exact ⟨0, Nat.zero_le _, rfl, rfl, HN, hbr, fun j hj => absurd hj (Nat.not_lt_zero j)⟩
        case round =>
          clear HN hbr
          obtain ⟨k, hk, rfl, rfl, HN, hbr, HI⟩ := hrel
          by_cases hlt2 : k < m
          · obtain ⟨b2, o2, rfl, _, hc2⟩ := (hR3.below (hbr.mono (by omega))).at_ hlt2
            cases hh : inB (ps.getD k 0) 0 1000000
            · have HF := hide (bad_yes (by rw [HPN.out]; exact hlt2) hh)
              have HOK := hide (show OK = false by rw [HK.out, HF.out]; rfl)
              have HOUT := hide (show OUT = [] by rw [HO.out, HF.out]; rfl)
              obtain ⟨p, hp⟩ := ex_eq (ps.getD k 0)
              rw [hp] at hc2 hh
              have HH := hide hh
              clear hh hp
              go_wp2_with (go_at_call 53; refine (l00In_any _ _ _ _).mono ?_; rintro e w' ⟨rfl, rfl⟩; rw [HH.out])
              go_ret2
              rw [HOK.out, HOUT.out]
              exact ⟨none, 0, rfl, OwnF.nil _ _, hb1.trans (hbr.mono hz1)⟩
            · have HI2 := hide (show ∀ j, j < k + 1 → inB (ps.getD j 0) 0 1000000 = true from fun j hj => by rcases Nat.lt_succ_iff_lt_or_eq.1 hj with h | h; exact HI.out j h; rw [h]; exact hh)
              have hix : i * m + k < MM := by
                have h1 := Nat.mul_le_mul_right m (show i + 1 ≤ m by omega)
                rw [Nat.add_mul, Nat.one_mul, HMM.out] at h1
                omega
              obtain ⟨b1, o1, rfl, _, hc1⟩ := (hP.below hbr).at_ hix
              have hat := plAll_at (xs := xs) (i := i) (k := k) (by rw [HXN.out]; exact hlt2) m hlt
              rw [HXN.out] at hat
              rw [hat] at hc1
              have hops := (prize_big g (ps := ps) (i := i) (by rw [HXN.out]; exact hlt) (m := k + 1) (by rw [HXN.out]; exact hlt2) (fun j hj => inB_yes (HI2.out j hj))).2 k (Nat.lt_succ_self k)
              obtain ⟨p, hp⟩ := ex_eq (ps.getD k 0)
              rw [hp] at hc2 hh hops
              obtain ⟨c3, hc3⟩ := ex_eq (PL xs k allL i)
              rw [hc3] at hc1 hops
              obtain ⟨a, ha⟩ := ex_eq (prW xs ps i k)
              rw [ha] at hops ⊢
              obtain ⟨a2, ha2⟩ := ex_eq (prW xs ps i (k + 1))
              rw [ha2] at hops
              have HA2 := hide ha2
              obtain ⟨q, hq⟩ := ex_eq (mulW c3 (FloatKind.f32.nearest p))
              rw [hq] at hops
              have r2 : ∀ w, (binOp .mul 25 (.float .f32 c3) (.float .f32 (floatOfInt .f32 p))).run Try.prog w = .ok (.float .f32 q) w := fun w => run_float_arith (P := Try.prog) w .mul 25 .f32 _ _ _ hops.1
              have r3 : ∀ w, (binOp .add 25 (.float .f32 a) (.float .f32 q)).run Try.prog w = .ok (.float .f32 a2) w := fun w => run_float_arith (P := Try.prog) w .add 25 .f32 _ _ _ hops.2
              have h0 : (0 : Int) ≤ (k : Int) := by omega
              have h1 : (k : Int) < (m : Int) := by omega
              have hpr : i * m ≤ 36 := by omega
              obtain ⟨P, hPm⟩ := ex_eq (i * m)
              rw [hPm] at hix hc1 hpr
              have hPi : (i : Int) * (m : Int) = (P : Int) := by rw [← hPm]; simp
              have h2 : (0 : Int) ≤ (P : Int) + (k : Int) := by omega
              have h3 : (P : Int) + (k : Int) < (MM : Int) := by omega
              have HH := hide hh
              clear hh hp hc3 ha ha2 hq hops hat HI hPm
              go_wp2_with (go_at_call 53; refine (l00In_any _ _ _ _).mono ?_; rintro e w' ⟨rfl, rfl⟩; rw [HH.out])
              go_quiet (fail)
              go_wp2
              go_roundw
              case rel => exact ⟨k + 1, by omega, by go_num, by rw [HA2.out], hide (HN.out.drewN nq), bdrewN hbr nq, HI2⟩
              case measure => simp [intOf]; omega
          · obtain rfl : k = m := by omega
            have hgr : G ≤ wr.heap.size := by have := hbr.size; have := HG.out; omega
            have HNX := hide (psTo_succ xs ps i)
            have hlen : (psTo xs ps i).length ≤ 1000 := by rw [psTo_len]; omega
            rw [HXN.out] at HNX
            obtain ⟨ys, hys⟩ := ex_eq (psTo xs ps i)
            obtain ⟨p, hp⟩ := ex_eq (prW xs ps i k)
            rw [hys] at HN HNX hlen
            rw [hp] at HNX ⊢
            clear hys hp
            go_wp2_with (at_builtin; refine wpList_appF rfl (.tmp 62) (.tmp 64) rfl G _ ys [p] rfl (HN.out.alloc _) (some ⟨wr.heap.size, 0, none⟩) 1 1 rfl (rdF_one wr p 25) (fun h => by cases h) (by omega) (by simp; omega) ?_; intro v4 w4 ho4 hg4 hb4)
            have hbb := (HN.out.alloc (.cells #[.float .f32 p] 25)).grown hg4 (by simp; omega)
            have hb5 := hbr.trans (((Below.refl G wr).alloc hgr _).trans hbb)
            have HNn := hide (show LstF w4 G v4 (psTo xs ps (i + 1)) by rw [HNX.out]; exact ho4)
            have HI3 := hide (show 0 < i + 1 → ∀ j, j < k → inB (ps.getD j 0) 0 1000000 = true from fun _ => HI.out)
            clear hb4 hg4 ho4 hbb HN HI
            go_wp2
            go_roundw
            case rel => exact ⟨i + 1, by omega, by go_num, HNn, hb5, HI3⟩
            case measure => simp [intOf]; omega
      · obtain rfl : i = m := by omega
        have HNB := hide (bad_no (xs := ps) (lo := 0) (hi := 1000000) (fun j hj => HI.out hx1 j (by rw [← HPN.out]; exact hj)))
        have HOK := hide (show OK = true by rw [HK.out, HNB.out]; rfl)
        have HOUT := hide (show OUT = psTo xs ps i by rw [HO.out, HNB.out]; rfl)
        obtain ⟨AO, cO, rfl, hO⟩ := HN.out.form
        clear HN
        go_wp2
        go_ret2
        rw [HOK.out, HOUT.out]
        exact ⟨AO, cO, rfl, OwnF.mono hO hz1, hb1.trans (hbr.mono hz1)⟩
end Go.Proofs.Ytlfffkjgepgcfaa.pl
