/-
  Pots shared, in the implementation. Conditions: those of each theorem.
-/
import Derived.Test.YtlfffkjgepgcfaaShS
namespace Go.Proofs.Ytlfffkjgepgcfaa.chance
open Go.RowKit
open base mem

theorem shr1_any (x : Int) (w : World) : Calls Try.prog 74 #[.int .i64 x] w fun e w' => e = .returned (.bool (!inB x 0 10000000)) ∧ w = w' := by
  obtain ⟨E, hE⟩ := ex_eq (inB x 0 10000000)
  rw [hE]
  have HE := hide hE
  clear hE
  go_enter Try.func74, Try.ntmps74
  go_wp2_with (go_at_call 54; refine (within_any _ _ _ _).mono ?_; rintro e w' ⟨rfl, rfl⟩; rw [HE.out])
  go_ret
  exact ⟨rfl, rfl⟩
set_option maxHeartbeats 1000000 in
theorem shrI_any (A : Option Addr) (n c : Nat) (xs : List Int) (B : Nat) (w : World) (hR : Rd w B A n xs) (hn : n ≤ 1048576) :
    Calls Try.prog 86 #[.slice A n c, .func (.func 74) #[] #[]] w fun e w' => (∃ i, e = .returned (.int .i64 i) ∧ ixB (badB 10000000 0 xs) i) ∧ w = w' := by
  have HL := hide hR.len
  go_enter Try.func86, Try.ntmps86
  go_wp2
  go_loop [8] (fun i => ∃ k : Nat, k ≤ n ∧ i = .int .i64 k ∧ Hid (∀ j, j < k → inB (xs.getD j 0) 0 10000000 = true)) (fun i => n - (intOf i).toNat)
  case atStart => exact ⟨0, Nat.zero_le _, rfl, fun j hj => absurd hj (Nat.not_lt_zero j)⟩
  case round =>
    obtain ⟨k, hk, rfl, hno⟩ := hrel
    by_cases hlt : k < n
    · have hkx : k < xs.length := by rw [HL.out]; exact hlt
      obtain ⟨b, o, rfl, hbB, hc⟩ := hR.at_ hlt
      cases hh : inB (xs.getD k 0) 0 10000000
      · have HF := hide (bad_yes hkx hh)
        obtain ⟨x, hx⟩ := ex_eq (xs.getD k 0)
        rw [hx] at hc hh
        have HU := hide (shr1_any x w)
        rw [hh] at HU
        clear hkx hR hh hx
        go_wp2_with (go_at_call 74; refine HU.out.mono ?_; rintro e w' ⟨rfl, rfl⟩)
        go_ret
        exact ⟨⟨_, rfl, .inl ⟨HF.out, by omega, by omega⟩⟩, rfl⟩
      · have HN := hide hh
        obtain ⟨x, hx⟩ := ex_eq (xs.getD k 0)
        rw [hx] at hc hh
        have HU := hide (shr1_any x w)
        rw [hh] at HU
        clear hkx hR hh hx
        go_wp2_with (go_at_call 74; refine HU.out.mono ?_; rintro e w' ⟨rfl, rfl⟩)
        go_round
        case rel => exact ⟨k + 1, by omega, by go_num, fun j hj => by rcases Nat.lt_succ_iff_lt_or_eq.1 hj with h | h; exact hno.out j h; rw [h]; exact HN.out⟩
        case measure => simp [intOf]; omega
    · have hkm : k = n := by omega
      have HN := hide (bad_no (xs := xs) (lo := 0) (hi := 10000000) (fun j hj => hno.out j (by rw [hkm, ← HL.out]; exact hj)))
      clear hkm hR
      go_wp2
      go_ret
      exact ⟨⟨_, rfl, .inr ⟨HN.out, rfl⟩⟩, rfl⟩
theorem shrC_any (A : Option Addr) (n c : Nat) (xs : List Int) (B : Nat) (w : World) (hR : Rd w B A n xs) (hn : n ≤ 1048576) :
    Calls Try.prog 67 #[.slice A n c, .func (.func 74) #[] #[]] w fun e w' => e = .returned (.bool (badB 10000000 0 xs)) ∧ w = w' := by
  have HX := hide (shrI_any A n c xs B w hR hn)
  obtain ⟨E, hE⟩ := ex_eq (badB 10000000 0 xs)
  rw [hE]
  have HE := hide hE
  clear hR hE
  go_enter Try.func67, Try.ntmps67
  go_wp2_with fail
  refine HX.out.mono ?_
  rintro e w' ⟨⟨i, rfl, hi⟩, rfl⟩
  rcases hi with ⟨h1, h2, h3⟩ | ⟨h1, rfl⟩
  · have HF := hide (HE.out.symm.trans h1)
    have hd : decide (0 ≤ i) = true := by simpa using h2
    clear h1 HX
    go_wp2
    go_ret
    exact ⟨by rw [HF.out]; rfl, rfl⟩
  · have HF := hide (HE.out.symm.trans h1)
    clear h1 HX
    go_wp2
    go_ret
    exact ⟨by rw [HF.out]; rfl, rfl⟩

def castN (l : List Nat) : List Int := l.map fun (i : Nat) => (i : Int)
theorem castN_len (l : List Nat) : (castN l).length = l.length := by simp [castN]
theorem castN_at (l : List Nat) (k : Nat) : (castN l).getD k 0 = ((l.getD k 0 : Nat) : Int) := by
  unfold castN
  by_cases h : k < l.length
  · simp [List.getD, h]
  · simp [List.getD, h]
theorem LstN.new2 (w : World) : LstN (w.alloc (.cells #[] 3)) w.heap.size (.slice (some ⟨w.heap.size, 0, none⟩) 0 0) [] :=
  World.ownsRow_made w #[] 0 (Nat.le_refl _) (Nat.zero_le _) rfl

set_option maxRecDepth 100000 in
set_option maxHeartbeats 8000000 in
theorem share_i (A : Option Addr) (n c : Nat) (xs : List Int) (A2 : Option Addr) (m c2 : Nat) (ob : List Bool) (A3 : Option Addr) (c3 : Nat) (ys : List Int) (w : World) (hR : Rd w w.heap.size A n xs) (hn : n ≤ 1048576) (hnc : n ≤ c) (hS : RdB w w.heap.size A2 m ob) (hm : m ≤ 1048576) (hmc : m ≤ c2)
    (hY : Rd w w.heap.size A3 n ys) (hk : spOk xs ob = true) :
    Calls Try.prog 42 #[.slice A n c, .slice A2 m c2, .slice A3 n c3] w fun e w' => ∃ A' c', e = .returned (.tuple #[.slice A' (shOut xs ob ys).length c', .bool (shOk xs ob ys)]) ∧ Own w' w.heap.size A' (shOut xs ob ys).length c' (shOut xs ob ys) ∧ Below w.heap.size w w' := by
  have hl := hR.len
  have hyl := hY.len
  have hst : stOk xs ob = true := by unfold spOk at hk; rw [Bool.and_eq_true] at hk; exact hk.1
  obtain ⟨h16, hlo, hx⟩ := st_facts hst
  rw [hl] at h16
  have HSP := hide (impl_SidePots A n c xs A2 m c2 ob w hR hn hnc hS hm hmc)
  have HO := hide (show ∀ b, badB 10000000 0 ys = b → shOk xs ob ys = !b ∧ shOut xs ob ys = if b = true then [] else shT (spPots xs ob) (spSets xs ob) ys n (spPots xs ob).length from fun b hb => by
    have h1 : shOk xs ob ys = !b := by simp [shOk, hk, hb, hyl, hl]
    refine ⟨h1, ?_⟩
    rw [shOut, h1, hl]
    cases b <;> rfl)
  have HTD := hide (fun hb => told (ys := ys) hk (by rw [hyl, hl]) hb)
  rw [hl] at HTD
  rw [hk] at HSP
  obtain ⟨KO, hKO⟩ := ex_eq (shOk xs ob ys)
  obtain ⟨OUT, hOUT⟩ := ex_eq (shOut xs ob ys)
  rw [hKO, hOUT] at HO ⊢
  have hsl := (sp_len xs ob).2
  have hpl := (sp_len xs ob).1
  obtain ⟨PS, hPS⟩ := ex_eq (spPots xs ob)
  obtain ⟨SS, hSS⟩ := ex_eq (spSets xs ob)
  rw [hPS] at HO HTD HSP hsl hpl
  rw [hSS] at HO HTD HSP hsl
  rw [hsl] at HSP
  obtain ⟨mp, hmp⟩ := ex_eq PS.length
  rw [hmp] at HO HTD HSP hpl
  obtain ⟨b3, o3, rfl, hb3B, hc30⟩ := hY.2 (by omega)
  have hYR := hY
  have HC := hide (fun (k : Nat) (w' : World) (hb : Below w.heap.size w w') (hk : k < n) => (hb.cell (p := ⟨b3, o3 + k, none⟩) hb3B).trans (hc30 k hk))
  have HYL := hide hyl
  obtain ⟨i0, hi, hz0, hz1, hz2⟩ := info_parts info_int64
  have hz2' : i0.bytes * n ≤ 281474976710656 := by rw [hz2]; omega
  have HZ2 := hide hz2
  clear hz2
  clear hR hS hY hKO hOUT hPS hSS hmp hc30 hl hyl hst hlo hx hk hsl
  have HSH := hide (fun (A : Option Addr) (n c : Nat) (B : Nat) (w : World) (h : Rd w B A n ys) (hn : n ≤ 1048576) => shrC_any A n c ys B w h hn)
  have HYR := hide hYR
  clear hYR
  go_enter Try.func42, Try.ntmps42
  go_wp2_with fail
  refine HSP.out.mono ?_
  rintro e w1 ⟨A8, c8, A9, c9, rfl, hP, hQ, hsep, hb1⟩
  have HB1 := hide hb1
  have HPR := hide hP.rd
  have HQR := hide hQ.rd
  have HSC := hide (HSH.out (some ⟨b3, o3, none⟩) n c3 w.heap.size w1 (HYR.out.below hb1) (by omega))
  clear hP hQ hsep hb1
  cases hbad : badB 10000000 0 ys
  rotate_left
  · rw [hbad] at HSC
    have HF := hide (HO.out true hbad)
    clear hbad
    go_wp2_with (go_at_call 67; refine HSC.out.mono ?_; rintro e w' ⟨rfl, rfl⟩)
    go_ret2
    exact ⟨none, 0, by rw [HF.out.1, HF.out.2]; rfl, by rw [HF.out.2]; exact Own.nil _ _, HB1.out⟩
  rw [hbad] at HSC
  have HF := hide (HO.out false hbad)
  have HT := hide (HTD.out hbad)
  have HYB := hide (show ∀ i, i < n → 0 ≤ ys.getD i 0 ∧ ys.getD i 0 ≤ 10000000 from fun i hi => bad_at hbad (by rw [HYL.out]; exact hi))
  clear hbad
  go_wp2_with (first | (go_at_call 67; refine HSC.out.mono ?_; rintro e w' ⟨rfl, rfl⟩) | (at_make; refine wpList_make_full _ rfl (.tmp 42) (.tmp 42) 35 rfl w1.heap.size 2 i0 (.int .i64 0) 1 Try.underlying35 hi hz0 hz1 .i64 .i64 _ _ n rfl rfl rfl rfl hz2' (by unfold maxLen; omega) (Nat.le_refl _) ?_; intro w2 hown hgr))
  have hb2 : Below w1.heap.size w1 w2 := (Below.refl _ _).grown hgr (Nat.le_refl _) (fun _ h => by cases h)
  have hown1 : Own w2 w1.heap.size (some ⟨w1.heap.size, 0, none⟩) n n (shT PS SS ys n 0) := by
    unfold Own shT
    simpa [Value.cells, toList_madeCells_one, ivs] using hown
  have HB2 := hide hb2
  have HO1 := hide hown1
  clear hb2 hown1 hown hgr
  go_loopw [46] (fun i wr => ∃ p : Nat, p ≤ mp ∧ i = .int .i64 p ∧ Own wr w1.heap.size (some ⟨w1.heap.size, 0, none⟩) n n (shT PS SS ys n p) ∧ Below w1.heap.size w1 wr) (fun i _ => mp - (intOf i).toNat)
  case atStart => exact ⟨0, Nat.zero_le _, rfl, HO1.out, HB2.out⟩
  case round =>
    clear HO1 HB2
    obtain ⟨p, hp, rfl, hG, hb⟩ := hrel
    by_cases hpm : p < mp
    · have hPb := HT.out.pot p hpm
      have hSb := HT.out.set_ p hpm
      have hWs := HT.out.some_ p hpm
      obtain ⟨b8, o8, e8, hb8, hc8⟩ := (HPR.out.below hb).at_ hpm
      obtain ⟨b9, o9, e9, hb9, hc9⟩ := (HQR.out.below hb).at_ hpm
      have HC9 := hide (fun (w' : World) (hb' : Below w1.heap.size w1 w') => (HQR.out.below hb').at_ hpm)
      subst e8 e9
      rw [hSb.1] at hc9
      obtain ⟨P, hPe⟩ := ex_eq (PS.getD p 0)
      obtain ⟨s, hse⟩ := ex_eq (SS.getD p 0).toNat
      rw [hPe] at hPb hc8
      rw [hse] at hWs hc9
      have hs64 : s < 64 := by rw [← hse]; exact hSb.2
      have HWS := hide hWs
      have HNX := hide (show shT PS SS ys n (p + 1) = gW (shT PS SS ys n p) P (wT s ys n).length (wT s ys n) (wT s ys n).length by rw [shT, hPe, hse])
      have HPS := hide hPe
      have HSS := hide (show SS.getD p 0 = (s : Int) by rw [hSb.1, hse])
      have hbo : Below w.heap.size w wr := HB1.out.trans (hb.mono HB1.out.size)
      have HN0 := hide (LstN.new2 wr)
      have HBN := hide ((Below.refl wr.heap.size wr).alloc (Nat.le_refl _) (.cells #[] 3))
      obtain ⟨wp, rfl⟩ : ∃ wp : World, wp = wr := ⟨_, rfl⟩
      have hgp := hb.size
      clear hPe hse hSb hWs
      go_wp2
      go_loopw [14, 15, 54] (fun mo v i wr => ∃ k : Nat, k ≤ n ∧ i = .int .i64 k ∧ mo = .int .i64 (mostT s ys k) ∧ LstN wr wp.heap.size v (castN (wT s ys k)) ∧ Below wp.heap.size wp wr) (fun _ _ i _ => n - (intOf i).toNat)
      case atStart => exact ⟨0, Nat.zero_le _, rfl, rfl, HN0.out, HBN.out⟩
      case round =>
        clear HN0 HBN
        obtain ⟨k, hk, rfl, rfl, hV, hbp⟩ := hrel
        have hbr : Below w1.heap.size w1 wr := hb.trans (hbp.mono hgp)
        have hbq : Below w.heap.size w wr := hbo.trans (hbp.mono hbo.size)
        by_cases hlt : k < n
        · have hc := HC.out k wr hbq hlt
          obtain ⟨b9', o9', e9', _, hc9'⟩ := HC9.out wr hbr
          obtain ⟨rfl, rfl⟩ : b9 = b9' ∧ o9 = o9' := by simpa using e9'
          rw [HSS.out] at hc9'
          have hyb := HYB.out k hlt
          have hk6 : k < 6 := by omega
          have hab := and_bits k hk6 s hs64
          have hms := mostT_step s ys k
          have hws := wT_step s ys k
          have hwl := wT_len s ys k
          have hmg := (most_ge s ys k).1
          have hgr := hbp.size
          obtain ⟨M, hM⟩ := ex_eq (mostT s ys k)
          obtain ⟨y, hy⟩ := ex_eq (ys.getD k 0)
          obtain ⟨T, hT⟩ := ex_eq (wT s ys k)
          rw [hM, hy] at hms hws
          rw [hM] at hmg ⊢
          rw [hT] at hws hwl hV
          rw [hy] at hc hyb
          clear e9' hbq
          cases hwb : winB s k
          · rw [hwb] at hab hms hws
            have HF1 := hide (show mostT s ys (k + 1) = M by rw [hms]; simp)
            have HF2 := hide (show wT s ys (k + 1) = T by rw [hws]; simp)
            clear hms hws hM hy hT hwb hyb
            go_wp2
            go_roundw
            case rel => exact ⟨k + 1, by omega, by go_num, by rw [HF1.out], by rw [HF2.out]; exact hV, hbp⟩
            case measure => simp [intOf]; omega
          · rw [hwb] at hab hms hws
            by_cases h1 : y < M
            · have HF1 := hide (show mostT s ys (k + 1) = M by rw [hms]; simp; omega)
              have HF2 := hide (show wT s ys (k + 1) = T by rw [hws, if_pos (.inr h1)])
              clear hms hws hM hy hT hwb
              go_wp2
              go_roundw
              case rel => exact ⟨k + 1, by omega, by go_num, by rw [HF1.out], by rw [HF2.out]; exact hV, hbp⟩
              case measure => simp [intOf]; omega
            · by_cases h2 : M < y
              · have HF1 := hide (show mostT s ys (k + 1) = y by rw [hms]; simp [h2])
                have HF2 := hide (show castN (wT s ys (k + 1)) = [] ++ [(k : Int)] by rw [hws, if_neg (by simp; omega), if_pos h2]; rfl)
                clear hms hws hM hy hT hwb
                go_wp2_with (at_builtin; refine wpList_appN rfl (.tmp 76) (.tmp 78) rfl wp.heap.size _ [] [(k : Int)] rfl (LstN.nil _ _) (some ⟨wr.heap.size, 0, none⟩) 1 1 rfl (rd_one wr (k : Int) 3) (fun h => by cases h) (by simp) (by simp; omega) ?_; intro v4 w4 ho4 hg4 hbk4)
                have hb4 := (hbp.alloc hgr (.cells #[.int .i64 (k : Int)] 3)).grown hg4 (by simp; omega) (fun k hk => by cases hk)
                clear hg4 hbk4
                go_roundw
                case rel => exact ⟨k + 1, by omega, by go_num, by rw [HF1.out], by rw [HF2.out]; exact ho4, hb4⟩
                case measure => simp [intOf]; omega
              · have hyM : y = M := by omega
                have HF1 := hide (show mostT s ys (k + 1) = M by rw [hms]; simp [h2])
                have HF2 := hide (show castN (wT s ys (k + 1)) = castN T ++ [(k : Int)] by rw [hws, if_neg (by simp; omega), if_neg h2]; simp [castN])
                clear hms hws hM hy hT hwb hyM
                go_wp2_with (at_builtin; refine wpList_appN rfl (.tmp 76) (.tmp 78) rfl wp.heap.size _ (castN T) [(k : Int)] rfl (hV.alloc _) (some ⟨wr.heap.size, 0, none⟩) 1 1 rfl (rd_one wr (k : Int) 3) (fun h => by cases h) (by rw [castN_len]; omega) (by simp; omega) ?_; intro v4 w4 ho4 hg4 hbk4)
                have hb4 := (hbp.alloc hgr (.cells #[.int .i64 (k : Int)] 3)).grown hg4 (by simp; omega) (fun k hk => ((hV.alloc (.cells #[.int .i64 (k : Int)] 3)).blk k hk).1)
                clear hg4 hbk4 hV
                go_roundw
                case rel => exact ⟨k + 1, by omega, by go_num, by rw [HF1.out], by rw [HF2.out]; exact ho4, hb4⟩
                case measure => simp [intOf]; omega
        · have hkn : k = n := by omega
          have d3 : decide ((k : Int) < (n : Int)) = false := decide_eq_false (by omega)
          have hwe := wT_eq s ys n (fun i hi => (HYB.out i hi).1)
          have hwl := wT_len s ys n
          have hwm := HWS.out
          rw [hkn] at hV
          rw [hkn]
          obtain ⟨M, hM⟩ := ex_eq (mostT s ys n)
          rw [hM] at hwe ⊢
          have hnx := HNX.out
          have hwmem := fun j hj => wF_mem (s := s) (ys := ys) (M := M) (n := n) (j := j) hj
          rw [hwe] at hnx hwl hwm hV
          obtain ⟨W, hW⟩ := ex_eq (wF s ys M n)
          rw [hW] at hnx hwl hwm hwmem hV
          obtain ⟨mw, hmw⟩ := ex_eq W.length
          rw [hmw] at hnx hwl hwm hwmem
          have hsb := shT_bound PS SS ys n h16.2 (fun p hp => HT.out.pot p (by rw [← HT.out.lp]; exact hp)) (fun p hp => HT.out.some_ p (by rw [← HT.out.lp]; exact hp)) p (by rw [HT.out.lp]; omega)
          have hsl := shT_len PS SS ys n p
          obtain ⟨G, hGe⟩ := ex_eq (shT PS SS ys n p)
          rw [hGe] at hnx hsb hsl hG
          have HNX2 := hide hnx
          have HGB := hide (fun j => gW_bound G P mw W (80000000 * p) hPb hwm hsb j)
          have HGL := hide (fun j => (gW_len G P mw W j).trans hsl)
          have HWM := hide hwmem
          have HWL := hide (show (castN W).length = mw by rw [castN_len, hmw])
          obtain ⟨A15, c15, rfl, hV'⟩ := hV.form (n := mw) (by rw [castN_len, hmw])
          obtain ⟨g15, cap15, hv15, hg15⟩ : ∃ g cap, Value.slice A15 mw c15 = .slice (some ⟨g, 0, none⟩) mw cap ∧ wp.heap.size ≤ g := by
            rcases hV'.2 with ⟨_, h0⟩ | ⟨g, cap, cur, h1, h2, _⟩
            · omega
            · exact ⟨g, cap, h1, h2⟩
          injection hv15 with e1 e2 e3
          subst e1 e3
          have hGw : Own wr w1.heap.size (some ⟨w1.heap.size, 0, none⟩) n n (gW G P mw W 0) := hG.below hbp (Nat.le_refl _)
          have HGW := hide hGw
          have HVW := hide hV'
          have HBR := hide hbr
          have hpx : 0 ≤ P % (mw : Int) ∧ P % (mw : Int) < mw := ⟨Int.emod_nonneg _ (by omega), Int.emod_lt_of_pos _ (by omega)⟩
          have hmnz : ¬ mw = 0 := by omega
          have hgn : w1.heap.size < g15 := by
            have h1 := (hG.ownBlock w1.heap.size rfl).2
            omega
          obtain ⟨wz, rfl⟩ : ∃ wz : World, wz = wr := ⟨_, rfl⟩
          clear hkn hwe hM hnx hwmem hW hmw hsb hsl hGe hG hV hV' hGw hbr hbq hbp e2
          go_wp2
          go_loopw [85] (fun i wr => ∃ j : Nat, j ≤ mw ∧ i = .int .i64 j ∧ Own wr w1.heap.size (some ⟨w1.heap.size, 0, none⟩) n n (gW G P mw W j) ∧ wr.ownsRow wp.heap.size 3 1 (.slice (some ⟨g15, 0, none⟩) mw c15) mw (ivs (castN W)) ∧ Below w1.heap.size w1 wr) (fun i _ => mw - (intOf i).toNat)
          case atStart => exact ⟨0, Nat.zero_le _, rfl, HGW.out, HVW.out, HBR.out⟩
          case round =>
            clear HGW HVW HBR hc8 hc9
            obtain ⟨j, hj, rfl, hG, hV, hb3⟩ := hrel
            by_cases hjm : j < mw
            · have hin := HWM.out j hjm
              have hcV := World.ownsRow.cellAt (h := hV) j (by omega)
              rw [ivs_at _ _ (by rw [HWL.out]; exact hjm), castN_at] at hcV
              have hgb := HGB.out j (W.getD j 0)
              have hgl := HGL.out j
              have hgs : gW G P mw W (j + 1) = (gW G P mw W j).set (W.getD j 0) ((gW G P mw W j).getD (W.getD j 0) 0 + P / mw + if (j : Int) < P % mw then 1 else 0) := rfl
              obtain ⟨i, hi'⟩ := ex_eq (W.getD j 0)
              obtain ⟨Cu, hCu⟩ := ex_eq (gW G P mw W j)
              rw [hi'] at hin hcV hgb hgs
              rw [hCu] at hgb hgl hG hgs
              obtain ⟨v, hv⟩ := ex_eq (Cu.getD i 0)
              rw [hv] at hgb hgs
              have hcG := World.ownsRow.cellAt (h := hG) i (by omega)
              rw [ivs_at _ _ (by rw [hgl]; exact hin), hv] at hcG
              have hfG := World.ownsRow.frozenAt (h := hG) i
              have hq1 : 0 ≤ P / (mw : Int) := Int.ediv_nonneg hPb.1 (by omega)
              have hq2 : P / (mw : Int) ≤ P := Int.ediv_le_self _ hPb.1
              obtain ⟨Q, hQ⟩ := ex_eq (P / (mw : Int))
              rw [hQ] at hq1 hq2 hgs
              have HQ := hide hQ
              have hput := World.ownsRow.stored (h := hG) i (.int .i64 (v + Q))
              rw [ivs_set] at hput
              have hput2 := World.ownsRow.stored (h := hput.1) i (.int .i64 (v + Q + 1))
              rw [ivs_set, List.set_set] at hput2
              have hvb : 0 ≤ v ∧ v ≤ 600000000 := by omega
              have hV1 := World.ownsRow.kept (h := hV) hput.2 (.inr (by simp [Value.ownBlock]; omega))
              have hV2 := World.ownsRow.kept (h := hV1) hput2.2 (.inr (by simp [Value.ownBlock]; omega))
              have hbu1 := hb3.grown hput.2 hb3.size (fun q hq => by cases hq; exact Nat.le_refl _)
              obtain ⟨r, hr⟩ := ex_eq (P % (mw : Int))
              rw [hr] at hgs hpx
              by_cases hjr : (j : Int) < r
              · rw [if_pos hjr] at hgs
                have HGS := hide hgs
                have HPU := hide hput2.1
                have HVU := hide hV2
                have HBU := hide (hbu1.grown hput2.2 hbu1.size (fun q hq => by cases hq; exact Nat.le_refl _))
                clear hgb hgl hgs hi' hCu hv hQ hput hput2 hV1 hV2 hbu1 hG hV hb3
                go_upto_region 21 with fail
                go_region
                all_goals
                  go_wp2
                  rw [HQ.out, IntWalk.wrap64_in (v + Q) ⟨by omega, by omega⟩, IntWalk.wrap64_in (v + Q + 1) ⟨by omega, by omega⟩]
                  go_roundw
                  case rel => exact ⟨j + 1, by omega, by go_num, by rw [HGS.out]; exact Own.drewN HPU.out 1, HVU.out, bdrewN HBU.out 1⟩
                  case measure => simp [intOf]; omega
              · rw [if_neg hjr, Int.add_zero] at hgs
                have HGS := hide hgs
                have HPU := hide hput.1
                have HVU := hide hV1
                have HBU := hide hbu1
                clear hgb hgl hgs hi' hCu hv hQ hput hput2 hV1 hV2 hbu1 hG hV hb3
                go_upto_region 21 with fail
                go_region
                all_goals
                  go_wp2
                  rw [HQ.out, IntWalk.wrap64_in (v + Q) ⟨by omega, by omega⟩]
                  go_roundw
                  case rel => exact ⟨j + 1, by omega, by go_num, by rw [HGS.out]; exact Own.drewN HPU.out 1, HVU.out, bdrewN HBU.out 1⟩
                  case measure => simp [intOf]; omega
            · have hjn : j = mw := by omega
              have d5 : decide ((j : Int) < (mw : Int)) = false := decide_eq_false (by omega)
              rw [hjn, ← HNX2.out] at hG
              clear hjn hV
              go_wp2
              go_roundw
              case rel => exact ⟨p + 1, by omega, by go_num, hG, hb3⟩
              case measure => simp [intOf]; omega
    · have hpm' : p = mp := by omega
      have hfo := HF.out
      rw [if_neg (by decide)] at hfo
      have HFO := hide hfo
      have hout : shT PS SS ys n p = OUT := by rw [hpm']; exact hfo.2.symm
      rw [hout] at hG
      have hbo : Below w.heap.size w wr := HB1.out.trans (hb.mono HB1.out.size)
      have hgl := hG.len
      have HGL := hide hgl
      have hgo : Own wr w.heap.size (some ⟨w1.heap.size, 0, none⟩) n n OUT := hG.mono HB1.out.size
      clear hpm' hfo hout hG hb hgl
      go_wp2
      go_ret2
      exact ⟨_, _, by rw [HFO.out.1, HGL.out]; rfl, by rw [HGL.out]; exact hgo, hbo⟩

set_option maxHeartbeats 2000000 in
theorem impl_SharePots (A : Option Addr) (n c : Nat) (xs : List Int) (A2 : Option Addr) (m c2 : Nat) (ob : List Bool) (A3 : Option Addr) (l c3 : Nat) (ys : List Int) (w : World) (hR : Rd w w.heap.size A n xs) (hn : n ≤ 1048576) (hnc : n ≤ c) (hS : RdB w w.heap.size A2 m ob) (hm : m ≤ 1048576) (hmc : m ≤ c2)
    (hY : Rd w w.heap.size A3 l ys) (_hl : l ≤ 1048576) (_hlc : l ≤ c3) :
    Calls Try.prog 42 #[.slice A n c, .slice A2 m c2, .slice A3 l c3] w fun e w' => ∃ A' c', e = .returned (.tuple #[.slice A' (shOut xs ob ys).length c', .bool (shOk xs ob ys)]) ∧ Own w' w.heap.size A' (shOut xs ob ys).length c' (shOut xs ob ys) ∧ Below w.heap.size w w' := by
  have HSP := hide (impl_SidePots A n c xs A2 m c2 ob w hR hn hnc hS hm hmc)
  cases hk : spOk xs ob
  · have h1 : shOk xs ob ys = false := by simp [shOk, hk]
    have h2 : shOut xs ob ys = [] := by simp [shOut, h1]
    rw [h1, h2]
    rw [hk] at HSP
    have hb0 : (false : Bool) = false := rfl
    clear hR hS hY h1 h2 hk hb0
    go_enter Try.func42, Try.ntmps42
    go_wp2_with fail
    refine HSP.out.mono ?_
    rintro e w1 ⟨A8, c8, A9, c9, rfl, _, _, _, hb1⟩
    go_wp2_with fail
    go_ret2
    exact ⟨none, 0, rfl, Own.nil _ _, hb1⟩
  · by_cases hln : l = n
    · subst hln
      exact share_i A l c xs A2 m c2 ob A3 c3 ys w hR hn hnc hS hm hmc hY hk
    · have h1 : shOk xs ob ys = false := by simp [shOk, hk, hR.len, hY.len, hln]
      have h2 : shOut xs ob ys = [] := by simp [shOut, h1]
      rw [h1, h2]
      rw [hk] at HSP
      have hb0 : ((l : Int) != (n : Int)) = true := by simp; omega
      have hb1 : (l != n) = true := by simp [hln]
      clear hR hS hY h1 h2 hk hln
      go_enter Try.func42, Try.ntmps42
      go_wp2_with fail
      refine HSP.out.mono ?_
      rintro e w1 ⟨A8, c8, A9, c9, rfl, _, _, _, hb1⟩
      go_wp2_with fail
      go_ret2
      exact ⟨none, 0, rfl, Own.nil _ _, hb1⟩

end Go.Proofs.Ytlfffkjgepgcfaa.chance
