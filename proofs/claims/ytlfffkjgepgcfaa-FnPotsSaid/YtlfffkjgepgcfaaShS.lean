/-
  Pots shared, in the reference. Conditions: those of each theorem.
-/
import Derived.Test.YtlfffkjgepgcfaaShP
import Derived.Test.YtlfffkjgepgcfaaAppN
namespace Go.Proofs.Ytlfffkjgepgcfaa.chance
open Go.RowKit
open base mem

theorem sets_small {xs : List Int} {ob : List Bool} {H : Int} {n : Nat} (hn : n ≤ 6) : setT xs ob H n < 64 := by
  have h := setT_lt xs ob H n
  have : 2 ^ n ≤ 2 ^ 6 := Nat.pow_le_pow_right (by decide) hn
  omega
theorem and_bits (k : Nat) (hk : k < 6) (s : Nat) (hs : s < 64) : (bits BinOp.and IntKind.i64 ((s : Int) / 2 ^ k) 1 == 0) = !winB s k := by
  have key : ∀ k : Fin 6, ∀ s : Fin 64, (bits BinOp.and IntKind.i64 ((s.val : Int) / 2 ^ k.val) 1 == 0) = !winB s.val k.val := by decide +kernel
  exact key ⟨k, hk⟩ ⟨s, hs⟩
theorem wT_step (s : Nat) (ys : List Int) (k : Nat) : wT s ys (k + 1) = if winB s k = false ∨ ys.getD k 0 < mostT s ys k then wT s ys k else if mostT s ys k < ys.getD k 0 then [k] else wT s ys k ++ [k] := rfl
/-- what is left over, to be given one by one -/
def leftT (r : Int) (j : Nat) : Int := if (j : Int) < r then r - j else 0
/-- what pots and sets are like, for a walk -/
structure Told (PS SS ys : List Int) (mp n : Nat) : Prop where
  lp : PS.length = mp
  ls : SS.length = mp
  pot : ∀ p, p < mp → 0 ≤ PS.getD p 0 ∧ PS.getD p 0 ≤ 12000000
  set_ : ∀ p, p < mp → SS.getD p 0 = (((SS.getD p 0).toNat : Nat) : Int) ∧ (SS.getD p 0).toNat < 64
  some_ : ∀ p, p < mp → 1 ≤ (wT (SS.getD p 0).toNat ys n).length
theorem told {xs : List Int} {ob : List Bool} {ys : List Int} (h : spOk xs ob = true) (hy : ys.length = xs.length) (hb : badB 10000000 0 ys = false) : Told (spPots xs ob) (spSets xs ob) ys (spPots xs ob).length xs.length := by
  have hst : stOk xs ob = true := by unfold spOk at h; rw [Bool.and_eq_true] at h; exact h.1
  obtain ⟨h16, _, _⟩ := st_facts hst
  obtain ⟨h1, h2, h3, h4⟩ := spPots_facts h
  refine ⟨rfl, by rw [h1, h2], h3, fun p hp => ?_, fun p hp => ?_⟩
  · obtain ⟨H, i, e, _, _⟩ := h4 p hp
    have := sets_small (xs := xs) (ob := ob) (H := H) h16.2
    rw [e]
    omega
  · obtain ⟨H, i, e, hi, hw⟩ := h4 p hp
    have e2 : ((spSets xs ob).getD p 0).toNat = setT xs ob H xs.length := by rw [e]; rfl
    rw [e2]
    exact wT_some _ _ _ i hi hw (fun j hj => (bad_at hb (by rw [hy]; exact hj)).1)

set_option maxRecDepth 100000 in
set_option maxHeartbeats 8000000 in
theorem share_s (A : Option Addr) (n c : Nat) (xs : List Int) (A2 : Option Addr) (m c2 : Nat) (ob : List Bool) (A3 : Option Addr) (c3 : Nat) (ys : List Int) (w : World) (hR : Rd w w.heap.size A n xs) (hn : n ≤ 1048576) (hnc : n ≤ c) (hS : RdB w w.heap.size A2 m ob) (hm : m ≤ 1048576) (hmc : m ≤ c2)
    (hY : Rd w w.heap.size A3 n ys) (hk : spOk xs ob = true) :
    Calls Try.prog 41 #[.slice A n c, .slice A2 m c2, .slice A3 n c3] w fun e w' => ∃ A' c', e = .returned (.tuple #[.slice A' (shOut xs ob ys).length c', .bool (shOk xs ob ys)]) ∧ Own w' w.heap.size A' (shOut xs ob ys).length c' (shOut xs ob ys) ∧ Below w.heap.size w w' := by
  have hl := hR.len
  have hyl := hY.len
  have hst : stOk xs ob = true := by unfold spOk at hk; rw [Bool.and_eq_true] at hk; exact hk.1
  obtain ⟨h16, hlo, hx⟩ := st_facts hst
  rw [hl] at h16
  have HSP := hide (spec_SidePots A n c xs A2 m c2 ob w hR hn hnc hS hm hmc)
  have HO := hide (show ∀ b, badB 10000000 0 ys = b → shOk xs ob ys = !b ∧ shOut xs ob ys = if b = true then [] else shT (spPots xs ob) (spSets xs ob) ys n (spPots xs ob).length from fun b hb => by
    have h1 : shOk xs ob ys = !b := by simp [shOk, hk, hb, hyl, hl]
    refine ⟨h1, ?_⟩
    rw [shOut, h1, hl]
    cases b <;> rfl)
  have HTD := hide (fun hb => told (ys := ys) hk (by rw [hyl, hl]) hb)
  rw [hl] at HTD
  rw [hk] at HSP
  obtain ⟨KO, hKO⟩ := ex_eq (shOk xs ob ys)
  obtain ⟨OUT, hOUT⟩ := ex_eq (shOut xs ob ys)
  rw [hKO, hOUT] at HO ⊢
  have hsl := (sp_len xs ob).2
  have hpl := (sp_len xs ob).1
  obtain ⟨PS, hPS⟩ := ex_eq (spPots xs ob)
  obtain ⟨SS, hSS⟩ := ex_eq (spSets xs ob)
  rw [hPS] at HO HTD HSP hsl hpl
  rw [hSS] at HO HTD HSP hsl
  rw [hsl] at HSP
  obtain ⟨mp, hmp⟩ := ex_eq PS.length
  rw [hmp] at HO HTD HSP hpl
  obtain ⟨b3, o3, rfl, hb3B, hc30⟩ := hY.2 (by omega)
  have HC := hide (fun (k : Nat) (w' : World) (hb : Below w.heap.size w w') (hk : k < n) => (hb.cell (p := ⟨b3, o3 + k, none⟩) hb3B).trans (hc30 k hk))
  have HYL := hide hyl
  obtain ⟨i0, hi, hz0, hz1, hz2⟩ := info_parts info_int64
  have hz2' : i0.bytes * n ≤ 281474976710656 := by rw [hz2]; omega
  have HZ2 := hide hz2
  clear hz2
  clear hR hS hY hKO hOUT hPS hSS hmp hc30 hl hyl hst hlo hx hk hsl
  go_enter Try.func41, Try.ntmps41
  go_wp2_with fail
  refine HSP.out.mono ?_
  rintro e w1 ⟨A8, c8, A9, c9, rfl, hP, hQ, hsep, hb1⟩
  have HB1 := hide hb1
  have HPR := hide hP.rd
  have HQR := hide hQ.rd
  clear hP hQ hsep hb1
  go_wp2
  go_loopw [37] (fun i wr => ∃ k q : Nat, k ≤ n ∧ i = .int .i64 k ∧ Hid (∀ j, j < k → inB (ys.getD j 0) 0 10000000 = true) ∧ Hid (wr = w1.drewN q)) (fun i _ => n - (intOf i).toNat)
  case atStart => exact ⟨0, 0, Nat.zero_le _, rfl, (fun j hj => absurd hj (Nat.not_lt_zero j)), rfl⟩
  case round =>
    obtain ⟨k, q, hk, rfl, hno, hw⟩ := hrel
    have hbq : Below w.heap.size w wr := by rw [hw.out]; exact bdrewN HB1.out q
    by_cases hlt : k < n
    · have hc := HC.out k wr hbq hlt
      have hkx : k < ys.length := by rw [HYL.out]; exact hlt
      cases hh : inB (ys.getD k 0) 0 10000000
      · have HF := hide (HO.out true (bad_yes hkx hh))
        obtain ⟨x, hx⟩ := ex_eq (ys.getD k 0)
        rw [hx] at hc hh
        have HH := hide hh
        have HBQ := hide hbq
        clear hkx hh hx hbq
        go_wp2_with (go_at_call 53; refine (l00In_any _ _ _ _).mono ?_; rintro e w' ⟨rfl, rfl⟩; rw [HH.out])
        go_ret2
        exact ⟨none, 0, by rw [HF.out.1, HF.out.2]; rfl, by rw [HF.out.2]; exact Own.nil _ _, HBQ.out⟩
      · have HN := hide hh
        obtain ⟨x, hx⟩ := ex_eq (ys.getD k 0)
        rw [hx] at hc hh
        have HH := hide hh
        clear hkx hh hx hbq
        go_wp2_with (go_at_call 53; refine (l00In_any _ _ _ _).mono ?_; rintro e w' ⟨rfl, rfl⟩; rw [HH.out])
        go_roundw
        case rel => exact ⟨k + 1, q, by omega, by go_num, (fun j hj => by rcases Nat.lt_succ_iff_lt_or_eq.1 hj with h | h; exact hno.out j h; rw [h]; exact HN.out), hw⟩
        case measure => simp [intOf]; omega
    · have hkn : k = n := by omega
      have hbad := bad_no (xs := ys) (lo := 0) (hi := 10000000) (fun j hj => hno.out j (by rw [hkn, ← HYL.out]; exact hj))
      have HF := hide (HO.out false hbad)
      have HT := hide (HTD.out hbad)
      have HYB := hide (show ∀ i, i < n → 0 ≤ ys.getD i 0 ∧ ys.getD i 0 ≤ 10000000 from fun i hi => bad_at hbad (by rw [HYL.out]; exact hi))
      have d1 : decide ((k : Int) < (n : Int)) = false := decide_eq_false (by omega)
      have HPR2 := hide (show Rd wr w1.heap.size A8 mp PS by rw [hw.out]; exact HPR.out.drewN q)
      have HQR2 := hide (show Rd wr w1.heap.size A9 mp SS by rw [hw.out]; exact HQR.out.drewN q)
      have HBQ := hide hbq
      have hsz : w1.heap.size = wr.heap.size := by rw [hw.out]; rfl
      have HSZ := hide hsz
      obtain ⟨wo, rfl⟩ : ∃ wo : World, wo = wr := ⟨_, rfl⟩
      clear hkn hbad hno hw hbq hsz
      go_wp2_with (at_make; refine wpList_make_full _ rfl (.tmp 48) (.tmp 48) 35 rfl wo.heap.size 2 i0 (.int .i64 0) 1 Try.underlying35 hi hz0 hz1 .i64 .i64 _ _ n rfl rfl rfl rfl hz2' (by unfold maxLen; omega) (Nat.le_refl _) ?_; intro w2 hown hgr)
      have hb2 : Below wo.heap.size wo w2 := (Below.refl _ _).grown hgr (Nat.le_refl _) (fun _ h => by cases h)
      have hown1 : Own w2 wo.heap.size (some ⟨wo.heap.size, 0, none⟩) n n (shT PS SS ys n 0) := by
        unfold Own shT
        simpa [Value.cells, toList_madeCells_one, ivs] using hown
      have HB2 := hide hb2
      have HO1 := hide hown1
      clear hb2 hown1 hown hgr
      go_loopw [52] (fun i wr => ∃ p : Nat, p ≤ mp ∧ i = .int .i64 p ∧ Own wr wo.heap.size (some ⟨wo.heap.size, 0, none⟩) n n (shT PS SS ys n p) ∧ Below wo.heap.size wo wr) (fun i _ => mp - (intOf i).toNat)
      case atStart => exact ⟨0, Nat.zero_le _, rfl, HO1.out, HB2.out⟩
      case round =>
        clear HO1 HB2
        obtain ⟨p, hp, rfl, hG, hb⟩ := hrel
        by_cases hpm : p < mp
        · have hPb := HT.out.pot p hpm
          have hSb := HT.out.set_ p hpm
          have hWs := HT.out.some_ p hpm
          obtain ⟨b8, o8, e8, hb8, hc8⟩ := (HPR2.out.below (B := w1.heap.size) (by rw [HSZ.out]; exact hb)).at_ hpm
          obtain ⟨b9, o9, e9, hb9, hc9⟩ := (HQR2.out.below (B := w1.heap.size) (by rw [HSZ.out]; exact hb)).at_ hpm
          subst e8 e9
          rw [hSb.1] at hc9
          obtain ⟨P, hPe⟩ := ex_eq (PS.getD p 0)
          obtain ⟨s, hse⟩ := ex_eq (SS.getD p 0).toNat
          rw [hPe] at hPb hc8
          rw [hse] at hWs hc9
          have hs64 : s < 64 := by rw [← hse]; exact hSb.2
          have HWS := hide hWs
          have HNX := hide (show shT PS SS ys n (p + 1) = gW (shT PS SS ys n p) P (wT s ys n).length (wT s ys n) (wT s ys n).length by rw [shT, hPe, hse])
          have hbo : Below w.heap.size w wr := HBQ.out.trans (hb.mono HBQ.out.size)
          obtain ⟨wp, rfl⟩ : ∃ wp : World, wp = wr := ⟨_, rfl⟩
          have HPS := hide hPe
          have HSS := hide (show SS.getD p 0 = (s : Int) by rw [hSb.1, hse])
          clear hPe hse hSb hWs
          go_wp2
          go_loopw [14, 15, 57] (fun mo ma i wr => ∃ k q : Nat, k ≤ n ∧ i = .int .i64 k ∧ mo = .int .i64 (mostT s ys k) ∧ ma = .int .i64 ((wT s ys k).length : Nat) ∧ Hid (wr = wp.drewN q)) (fun _ _ i _ => n - (intOf i).toNat)
          case atStart => exact ⟨0, 0, Nat.zero_le _, rfl, rfl, rfl, rfl⟩
          case round =>
            obtain ⟨k, q, hk, rfl, rfl, rfl, hw⟩ := hrel
            have hbq : Below w.heap.size w wr := by rw [hw.out]; exact bdrewN hbo q
            by_cases hlt : k < n
            · have hc := HC.out k wr hbq hlt
              have hc9' : wr.cell? ⟨b9, o9 + p, none⟩ = some (.int .i64 (s : Int)) := by rw [hw.out]; exact hc9
              have hyb := HYB.out k hlt
              have hk6 : k < 6 := by omega
              have hab := and_bits k hk6 s hs64
              have hms := mostT_step s ys k
              have hws := wT_step s ys k
              have hwl := wT_len s ys k
              have hmg := (most_ge s ys k).1
              obtain ⟨M, hM⟩ := ex_eq (mostT s ys k)
              obtain ⟨y, hy⟩ := ex_eq (ys.getD k 0)
              obtain ⟨T, hT⟩ := ex_eq (wT s ys k)
              rw [hM, hy] at hms hws
              rw [hM] at hmg ⊢
              rw [hT] at hws hwl ⊢
              rw [hy] at hc hyb
              obtain ⟨t, ht⟩ := ex_eq T.length
              rw [ht] at hwl ⊢
              have HT' := hide ht
              cases hwb : winB s k
              · rw [hwb] at hab hms hws
                have HF1 := hide (show mostT s ys (k + 1) = M by rw [hms]; simp)
                have HF2 := hide (show (wT s ys (k + 1)).length = t by rw [hws]; simp [ht])
                clear hms hws hM hy hT ht hwb hbq hyb
                go_wp2
                go_roundw
                case rel => exact ⟨k + 1, q, by omega, by go_num, by rw [HF1.out], by rw [HF2.out], hw⟩
                case measure => simp [intOf]; omega
              · rw [hwb] at hab hms hws
                by_cases h1 : M < y
                · have HF1 := hide (show mostT s ys (k + 1) = y by rw [hms]; simp [h1])
                  have HF2 := hide (show (wT s ys (k + 1)).length = 1 by rw [hws, if_neg (by simp; omega), if_pos h1]; rfl)
                  clear hms hws hM hy hT ht hwb hbq
                  go_wp2
                  go_roundw
                  case rel => exact ⟨k + 1, q, by omega, by go_num, by rw [HF1.out], by rw [HF2.out]; rfl, hw⟩
                  case measure => simp [intOf]; omega
                · by_cases h2 : y = M
                  · have HF1 := hide (show mostT s ys (k + 1) = M by rw [hms]; simp [h1])
                    have HF2 := hide (show (wT s ys (k + 1)).length = t + 1 by rw [hws, if_neg (by simp; omega), if_neg h1]; simp [ht])
                    have hb2 : (y == M) = true := by simp [h2]
                    clear hms hws hM hy hT ht hwb hbq h2
                    go_wp2
                    go_roundw
                    case rel => exact ⟨k + 1, q, by omega, by go_num, by rw [HF1.out], by rw [HF2.out]; go_num, hw⟩
                    case measure => simp [intOf]; omega
                  · have HF1 := hide (show mostT s ys (k + 1) = M by rw [hms]; simp [h1])
                    have HF2 := hide (show (wT s ys (k + 1)).length = t by rw [hws, if_pos (.inr (by omega))]; exact ht)
                    have hb2 : (y == M) = false := by simp [h2]
                    clear hms hws hM hy hT ht hwb hbq h2
                    go_wp2
                    go_roundw
                    case rel => exact ⟨k + 1, q, by omega, by go_num, by rw [HF1.out], by rw [HF2.out], hw⟩
                    case measure => simp [intOf]; omega
            · have hkn : k = n := by omega
              have d3 : decide ((k : Int) < (n : Int)) = false := decide_eq_false (by omega)
              have hwe := wT_eq s ys n (fun i hi => (HYB.out i hi).1)
              have hwl := wT_len s ys n
              have hwm := HWS.out
              rw [hkn]
              obtain ⟨M, hM⟩ := ex_eq (mostT s ys n)
              rw [hM] at hwe ⊢
              have hnx := HNX.out
              rw [hwe] at hnx hwl hwm ⊢
              obtain ⟨mw, hmw⟩ := ex_eq (wF s ys M n).length
              rw [hmw] at hnx hwl hwm ⊢
              have HMW := hide hmw
              have HNX2 := hide hnx
              have hsb := shT_bound PS SS ys n h16.2 (fun p hp => HT.out.pot p (by rw [← HT.out.lp]; exact hp)) (fun p hp => HT.out.some_ p (by rw [← HT.out.lp]; exact hp)) p (by rw [HT.out.lp]; omega)
              have hsl := shT_len PS SS ys n p
              obtain ⟨G, hGe⟩ := ex_eq (shT PS SS ys n p)
              rw [hGe] at hnx hsb hsl
              have HGE := hide hGe
              have HGB := hide (fun j => gW_bound G P mw (wF s ys M n) (80000000 * p) hPb hwm hsb j)
              have HGL := hide (fun j => (gW_len G P mw (wF s ys M n) j).trans hsl)
              have hG2 : Own wr wo.heap.size (some ⟨wo.heap.size, 0, none⟩) n n (gW G P mw (wF s ys M n) 0) := by rw [hw.out]; show Own _ _ _ _ _ G; rw [← hGe]; exact hG.drewN q
              have hb2 : Below wo.heap.size wo wr := by rw [hw.out]; exact bdrewN hb q
              have HG2 := hide hG2
              have HBB2 := hide hb2
              have HC9 := hide (fun (w' : World) (hb' : Below wo.heap.size wo w') => (HQR2.out.below (B := w1.heap.size) (by rw [HSZ.out]; exact hb')).at_ hpm)
              have HC8 := hide (fun (w' : World) (hb' : Below wo.heap.size wo w') => (HPR2.out.below (B := w1.heap.size) (by rw [HSZ.out]; exact hb')).at_ hpm)
              have hpx : 0 ≤ P % (mw : Int) ∧ P % (mw : Int) < mw := ⟨Int.emod_nonneg _ (by omega), Int.emod_lt_of_pos _ (by omega)⟩
              have hc8w : wr.cell? ⟨b8, o8 + p, none⟩ = some (.int .i64 P) := by rw [hw.out]; exact hc8
              obtain ⟨wz, rfl⟩ : ∃ wz : World, wz = wr := ⟨_, rfl⟩
              have hmnz : ¬ mw = 0 := by omega
              clear hkn hwe hM hmw hnx hsb hsl hGe hG hb hG2 hb2 hw hbq
              have HL0 := hide (show P % (mw : Int) = leftT (P % mw) 0 by unfold leftT; split <;> omega)
              go_wp2
              go_loopw [17, 96] (fun lf i wr => ∃ k : Nat, k ≤ n ∧ i = .int .i64 k ∧ lf = .int .i64 (leftT (P % mw) (wF s ys M k).length) ∧ Own wr wo.heap.size (some ⟨wo.heap.size, 0, none⟩) n n (gW G P mw (wF s ys M n) (wF s ys M k).length) ∧ Below wo.heap.size wo wr) (fun _ i _ => n - (intOf i).toNat)
              case atStart => exact ⟨0, Nat.zero_le _, rfl, int_congr HL0.out, HG2.out, HBB2.out⟩
              case round =>
                clear HL0 HG2 HBB2 hc8 hc9 hc8w
                obtain ⟨k, hk, rfl, rfl, hG, hb⟩ := hrel
                have hbq : Below w.heap.size w wr := HBQ.out.trans (hb.mono HBQ.out.size)
                by_cases hlt : k < n
                · have hc := HC.out k wr hbq hlt
                  obtain ⟨b8', o8', e8', _, hc8⟩ := HC8.out wr hb
                  obtain ⟨rfl, rfl⟩ : b8 = b8' ∧ o8 = o8' := by simpa using e8'
                  obtain ⟨b9', o9', e9', _, hc9⟩ := HC9.out wr hb
                  obtain ⟨rfl, rfl⟩ : b9 = b9' ∧ o9 = o9' := by simpa using e9'
                  rw [HPS.out] at hc8
                  rw [HSS.out] at hc9
                  have hyb := HYB.out k hlt
                  have hk6 : k < 6 := by omega
                  have hab := and_bits k hk6 s hs64
                  have hst := wF_step s ys M k
                  have hiw : isW s ys M k = (winB s k && (ys.getD k 0 == M)) := rfl
                  have hpre := fun h => wF_prefix s ys M n k hlt h
                  have hgb := HGB.out (wF s ys M k).length k
                  have hgl := HGL.out (wF s ys M k).length
                  have hfl : (wF s ys M k).length ≤ k := by unfold wF; exact Nat.le_trans (List.length_filter_le _ _) (by simp)
                  obtain ⟨y, hy⟩ := ex_eq (ys.getD k 0)
                  rw [hy] at hc hyb hiw
                  have HST := hide hst
                  obtain ⟨j, hj⟩ := ex_eq (wF s ys M k).length
                  have HJ := hide hj
                  rw [hj] at hgb hgl hG hpre hfl ⊢
                  have hgs : gW G P mw (wF s ys M n) (j + 1) = (gW G P mw (wF s ys M n) j).set ((wF s ys M n).getD j 0) ((gW G P mw (wF s ys M n) j).getD ((wF s ys M n).getD j 0) 0 + P / mw + if (j : Int) < P % mw then 1 else 0) := rfl
                  obtain ⟨Cu, hCu⟩ := ex_eq (gW G P mw (wF s ys M n) j)
                  rw [hCu] at hgb hgl hG hgs
                  cases hwb : winB s k
                  · rw [hwb] at hab hiw
                    have HF := hide (show (wF s ys M (k + 1)).length = j by rw [HST.out, hiw]; simpa using hj)
                    have HCU := hide hCu
                    clear hst hiw hpre hgb hgl hy hj hgs hCu hwb hbq hyb e8' e9'
                    go_wp2
                    go_roundw
                    case rel => exact ⟨k + 1, by omega, by go_num, by rw [HF.out], by rw [HF.out, HCU.out]; exact hG, hb⟩
                    case measure => simp [intOf]; omega
                  · rw [hwb] at hab hiw
                    by_cases hyM : y = M
                    · have hisw : isW s ys M k = true := by rw [hiw, hyM]; simp
                      obtain ⟨hp1, hp2⟩ := hpre hisw
                      rw [HMW.out] at hp2
                      rw [hp1] at hgs
                      have HF := hide (show (wF s ys M (k + 1)).length = j + 1 by rw [HST.out, hisw, if_pos rfl]; simp [hj])
                      have hnb : (y != M) = false := by simp [hyM]
                      obtain ⟨v, hv⟩ := ex_eq (Cu.getD k 0)
                      rw [hv] at hgb hgs
                      have hcG := World.ownsRow.cellAt (h := hG) k (by omega)
                      rw [ivs_at _ _ (by rw [hgl]; exact hlt), hv] at hcG
                      have hfG := World.ownsRow.frozenAt (h := hG) k
                      have hq1 : 0 ≤ P / (mw : Int) := Int.ediv_nonneg hPb.1 (by omega)
                      have hq2 : P / (mw : Int) ≤ P := Int.ediv_le_self _ hPb.1
                      obtain ⟨Q, hQ⟩ := ex_eq (P / (mw : Int))
                      rw [hQ] at hq1 hq2 hgs
                      have HQ := hide hQ
                      have hput := World.ownsRow.stored (h := hG) k (.int .i64 (v + Q))
                      rw [ivs_set] at hput
                      have hput2 := World.ownsRow.stored (h := hput.1) k (.int .i64 (v + Q + 1))
                      rw [ivs_set, List.set_set] at hput2
                      have hvb : 0 ≤ v ∧ v ≤ 600000000 := by omega
                      obtain ⟨r, hr⟩ := ex_eq (P % (mw : Int))
                      rw [hr] at hgs hpx ⊢
                      by_cases hjr : (j : Int) < r
                      · rw [if_pos hjr] at hgs
                        have hl1 : leftT r j = r - j := by unfold leftT; rw [if_pos hjr]
                        have hl2 : leftT r (j + 1) = r - j - 1 := by unfold leftT; split <;> omega
                        rw [hl1]
                        have HL2 := hide hl2
                        have HGS := hide hgs
                        have HPU := hide hput2.1
                        have HBU := hide (((hb.grown hput.2 hb.size (fun q hq => by cases hq; exact Nat.le_refl _))).grown hput2.2 (by simp; exact hb.size) (fun q hq => by cases hq; exact Nat.le_refl _))
                        clear hst hiw hpre hgb hgl hy hj hgs hCu hwb hbq hyb hput hput2 hG hisw hp1 hv hQ hyM hl1 hl2 e8' e9' hb
                        go_upto_region 31 with fail
                        go_region
                        all_goals
                          go_wp2
                          rw [HQ.out, IntWalk.wrap64_in (v + Q) ⟨by omega, by omega⟩, IntWalk.wrap64_in (v + Q + 1) ⟨by omega, by omega⟩]
                          go_roundw
                          case rel => exact ⟨k + 1, by omega, by go_num, by rw [HF.out, HL2.out], by rw [HF.out, HGS.out]; exact Own.drewN HPU.out 1, bdrewN HBU.out 1⟩
                          case measure => simp [intOf]; omega
                      · rw [if_neg hjr, Int.add_zero] at hgs
                        have hl1 : leftT r j = 0 := by unfold leftT; rw [if_neg hjr]
                        have hl2 : leftT r (j + 1) = 0 := by unfold leftT; rw [if_neg (by omega)]
                        rw [hl1]
                        have HL2 := hide hl2
                        have HGS := hide hgs
                        have HPU := hide hput.1
                        have HBU := hide (hb.grown hput.2 hb.size (fun q hq => by cases hq; exact Nat.le_refl _))
                        clear hst hiw hpre hgb hgl hy hj hgs hCu hwb hbq hyb hput hput2 hG hisw hp1 hv hQ hyM hl1 hl2 e8' e9' hb
                        go_upto_region 31 with fail
                        go_region
                        all_goals
                          go_wp2
                          rw [HQ.out, IntWalk.wrap64_in (v + Q) ⟨by omega, by omega⟩]
                          go_roundw
                          case rel => exact ⟨k + 1, by omega, by go_num, by rw [HF.out, HL2.out], by rw [HF.out, HGS.out]; exact Own.drewN HPU.out 1, bdrewN HBU.out 1⟩
                          case measure => simp [intOf]; omega
                    · have hisw : isW s ys M k = false := by rw [hiw]; simp [hyM]
                      have HF := hide (show (wF s ys M (k + 1)).length = j by rw [HST.out, hisw]; simpa using hj)
                      have HCU := hide hCu
                      have hnb : (y != M) = true := by simp [hyM]
                      clear hst hiw hpre hgb hgl hy hj hgs hCu hwb hbq hyb hisw hyM e8' e9'
                      go_wp2
                      go_roundw
                      case rel => exact ⟨k + 1, by omega, by go_num, by rw [HF.out], by rw [HF.out, HCU.out]; exact hG, hb⟩
                      case measure => simp [intOf]; omega
                · have hkn : k = n := by omega
                  have d5 : decide ((k : Int) < (n : Int)) = false := decide_eq_false (by omega)
                  have hfin : gW G P mw (wF s ys M n) (wF s ys M k).length = shT PS SS ys n (p + 1) := by
                    rw [HNX2.out, hkn, HMW.out, HGE.out]
                  rw [hfin] at hG
                  clear hkn hfin hbq
                  go_wp2
                  go_roundw
                  case rel => exact ⟨p + 1, by omega, by go_num, hG, hb⟩
                  case measure => simp [intOf]; omega
        · have hpm' : p = mp := by omega
          have hfo := HF.out
          rw [if_neg (by decide)] at hfo
          have HFO := hide hfo
          have hout : shT PS SS ys n p = OUT := by rw [hpm']; exact hfo.2.symm
          rw [hout] at hG
          have hbo : Below w.heap.size w wr := HBQ.out.trans (hb.mono HBQ.out.size)
          have hgl := hG.len
          have HGL := hide hgl
          have hgo : Own wr w.heap.size (some ⟨wo.heap.size, 0, none⟩) n n OUT := hG.mono HBQ.out.size
          clear hpm' hfo hout hG hb hgl
          go_wp2
          go_ret2
          exact ⟨_, _, by rw [HFO.out.1, HGL.out]; rfl, by rw [HGL.out]; exact hgo, hbo⟩

set_option maxHeartbeats 2000000 in
theorem spec_SharePots (A : Option Addr) (n c : Nat) (xs : List Int) (A2 : Option Addr) (m c2 : Nat) (ob : List Bool) (A3 : Option Addr) (l c3 : Nat) (ys : List Int) (w : World) (hR : Rd w w.heap.size A n xs) (hn : n ≤ 1048576) (hnc : n ≤ c) (hS : RdB w w.heap.size A2 m ob) (hm : m ≤ 1048576) (hmc : m ≤ c2)
    (hY : Rd w w.heap.size A3 l ys) (_hl : l ≤ 1048576) (_hlc : l ≤ c3) :
    Calls Try.prog 41 #[.slice A n c, .slice A2 m c2, .slice A3 l c3] w fun e w' => ∃ A' c', e = .returned (.tuple #[.slice A' (shOut xs ob ys).length c', .bool (shOk xs ob ys)]) ∧ Own w' w.heap.size A' (shOut xs ob ys).length c' (shOut xs ob ys) ∧ Below w.heap.size w w' := by
  have HSP := hide (spec_SidePots A n c xs A2 m c2 ob w hR hn hnc hS hm hmc)
  cases hk : spOk xs ob
  · have h1 : shOk xs ob ys = false := by simp [shOk, hk]
    have h2 : shOut xs ob ys = [] := by simp [shOut, h1]
    rw [h1, h2]
    rw [hk] at HSP
    have hb0 : (false : Bool) = false := rfl
    clear hR hS hY h1 h2 hk hb0
    go_enter Try.func41, Try.ntmps41
    go_wp2_with fail
    refine HSP.out.mono ?_
    rintro e w1 ⟨A8, c8, A9, c9, rfl, _, _, _, hb1⟩
    go_wp2_with fail
    go_ret2
    exact ⟨none, 0, rfl, Own.nil _ _, hb1⟩
  · by_cases hln : l = n
    · subst hln
      exact share_s A l c xs A2 m c2 ob A3 c3 ys w hR hn hnc hS hm hmc hY hk
    · have h1 : shOk xs ob ys = false := by simp [shOk, hk, hR.len, hY.len, hln]
      have h2 : shOut xs ob ys = [] := by simp [shOut, h1]
      rw [h1, h2]
      rw [hk] at HSP
      have hb0 : ((l : Int) != (n : Int)) = true := by simp; omega
      have hb1 : (l != n) = true := by simp [hln]
      clear hR hS hY h1 h2 hk hln
      go_enter Try.func41, Try.ntmps41
      go_wp2_with fail
      refine HSP.out.mono ?_
      rintro e w1 ⟨A8, c8, A9, c9, rfl, _, _, _, hb1⟩
      go_wp2_with fail
      go_ret2
      exact ⟨none, 0, rfl, Own.nil _ _, hb1⟩

end Go.Proofs.Ytlfffkjgepgcfaa.chance
