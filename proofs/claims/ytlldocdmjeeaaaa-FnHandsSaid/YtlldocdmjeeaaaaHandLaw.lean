/-
  The statement on hands, walked. Conditions: those of each theorem.
-/
import Derived.Test.YtlldocdmjeeaaaaHanQ
import Derived.Test.YtlldocdmjeeaaaaB10
import Derived.Test.YtlldocdmjeeaaaaB10W
namespace Go.Proofs.Ytlldocdmjeeaaaa.hand
open Go.RowKit
open base mem grid

/-- two lists that a function makes by appending -/
structure Tw (w0 w : World) (v1 v2 : Value) (xs ys : List Int) : Prop where
  a : Lst w w0.heap.size v1 xs
  b : Lst w w0.heap.size v2 ys
  sep : mem.Sep v1 v2
  low : Below w0.heap.size w0 w
theorem Tw.push1 {w0 w w' : World} {v1 v2 v1' : Value} {xs ys : List Int} {x : Int} (h : Tw w0 w v1 v2 xs ys) (o : Obj) (ho : Lst w' w0.heap.size v1' (xs ++ [x])) (hg : (w.alloc o).grownBy w' v1.ownBlock)
    (hk : v1'.ownBlock = v1.ownBlock ∨ v1'.ownBlock = some (w.alloc o).heap.size) : Tw w0 w' v1' v2 (xs ++ [x]) ys := by
  have hz : w0.heap.size ≤ (w.alloc o).heap.size := Nat.le_trans h.low.size (by simp)
  exact ⟨ho, (h.b.alloc o).kept hg h.sep.symm, mem.Sep.app h.sep hk (fun k hk => ((h.b.alloc o).blk k hk).2), (h.low.alloc h.low.size o).trans (Lst.grown (h.a.alloc o) hg hz)⟩
theorem Tw.push2 {w0 w w' : World} {v1 v2 v2' : Value} {xs ys : List Int} {y : Int} (h : Tw w0 w v1 v2 xs ys) (o : Obj) (ho : Lst w' w0.heap.size v2' (ys ++ [y])) (hg : (w.alloc o).grownBy w' v2.ownBlock)
    (hk : v2'.ownBlock = v2.ownBlock ∨ v2'.ownBlock = some (w.alloc o).heap.size) : Tw w0 w' v1 v2' xs (ys ++ [y]) := by
  have hz : w0.heap.size ≤ (w.alloc o).heap.size := Nat.le_trans h.low.size (by simp)
  exact ⟨(h.a.alloc o).kept hg h.sep, ho, (mem.Sep.app h.sep.symm hk (fun k hk => ((h.a.alloc o).blk k hk).2)).symm, (h.low.alloc h.low.size o).trans (Lst.grown (h.b.alloc o) hg hz)⟩
theorem take_next {xs : List Int} {k : Nat} (h : k < xs.length) : xs.take (k + 1) = xs.take k ++ [xs.getD k 0] := by
  have e : xs.getD k 0 = xs[k] := by simp [List.getD, h]
  rw [List.take_succ_eq_append_getElem h, e]
theorem rev_at {xs : List Int} {k n : Nat} (h : xs.length = n) (hk : k < n) : xs.reverse.getD k 0 = xs.getD (n - 1 - k) 0 := by
  subst h
  unfold List.getD
  rw [List.getElem?_reverse hk]
theorem sh_at {xs : List Int} {k : Nat} (hk : k < xs.length) : (xs.map shS).getD k 0 = shS (xs.getD k 0) := by
  simp [List.getD, hk]
theorem fnHands_long (A : Option Addr) (n c : Nat) (A2 : Option Addr) (n2 c2 : Nat) (w : World) (h : 1048576 < n ∨ 1048576 < n2) (hn : n ≤ 9223372036854775807) (hn2 : n2 ≤ 9223372036854775807) :
    Calls Try.prog 46 #[.slice A n c, .slice A2 n2 c2] w fun e w' => e = .returned (.bool true) ∧ w = w' := by
  by_cases h1 : 1048576 < n
  · have d1 : decide ((1048576 : Int) < (n : Int)) = true := decide_eq_true (by omega)
    go_enter Try.func46, Try.ntmps46
    go_wp2
    go_ret
    exact ⟨rfl, rfl⟩
  · have d1 : decide ((1048576 : Int) < (n : Int)) = false := decide_eq_false (by omega)
    have d2 : decide ((1048576 : Int) < (n2 : Int)) = true := decide_eq_true (by omega)
    go_enter Try.func46, Try.ntmps46
    go_wp2
    go_ret
    exact ⟨rfl, rfl⟩
set_option maxRecDepth 20000 in
theorem fnHands_big (A : Option Addr) (n c : Nat) (A2 : Option Addr) (n2 c2 : Nat) (w : World) (h : 1048576 < n ∨ 1048576 < n2) (hn : n ≤ 9223372036854775807) (hn2 : n2 ≤ 9223372036854775807) :
    Calls Try.prog 14 #[.slice A n c, .slice A2 n2 c2] w fun e w' => e = .returned (.bool true) ∧ Below w.heap.size w w' := by
  have HL := hide (fnHands_long A n c A2 n2 c2 w h hn hn2)
  have HB := hide (Below.refl w.heap.size w)
  clear h
  go_enter Try.func14, Try.ntmps14
  go_wp2_with (go_at_call 46; refine HL.out.mono ?_; rintro e w' ⟨rfl, rfl⟩)
  go_ret
  exact ⟨rfl, HB.out⟩

set_option maxRecDepth 20000 in
set_option maxHeartbeats 16000000 in
theorem fnHands_any (A : Option Addr) (n c : Nat) (zs : List Int) (A2 : Option Addr) (n2 c2 : Nat) (zs2 : List Int) (w : World) (hY : RdY w w.heap.size A n zs) (hn : n ≤ 1048576) (hY2 : RdY w w.heap.size A2 n2 zs2) (hn2 : n2 ≤ 1048576) :
    Calls Try.prog 14 #[.slice A n c, .slice A2 n2 c2] w fun e w' => e = .returned (.bool true) ∧ Below w.heap.size w w' := by
  have HL := hide (b10Long_any A A2 n c n2 c2 w hn hn2)
  have HA := hide (fun (W : World) (hb : Below w.heap.size w W) (i m : Nat) (hi : i ≤ 1000) (hm : m ≤ 1000) (hm1 : 2 ≤ m) => b10At_any A2 n2 c2 zs2 w.heap.size i m W (hY2.below hb) hn2 hi hm hm1)
  have HC := hide (fun (m : Nat) (hm : m ≤ 40) => B10Cards_any A n c zs m w hY hn hm)
  clear hY hY2
  go_enter Try.func14, Try.ntmps14
  go_upto_region 4 with (first | (go_at_call 46; refine HL.out.mono ?_; rintro e w' ⟨rfl, rfl⟩) | (go_at_call 47; refine (HA.out w (Below.refl _ _) 0 3 (by omega) (by omega) (by omega)).mono ?_; rintro e w' ⟨r0, rfl, hr0, rfl⟩))
  obtain ⟨nN, h5, h7, es⟩ : ∃ nN : Nat, 5 ≤ nN ∧ nN ≤ 7 ∧ (5 : Int) + (r0 : Int) = (nN : Int) := ⟨5 + r0, by omega, by omega, by omega⟩
  rw [es]
  clear es hr0
  go_upto_region 5 with (go_at_call 48; refine (HC.out nN (by omega)).mono ?_; rintro e w1 ⟨A6, c6, cs, rfl, ho6, hf, hb1⟩)
  have hcl : cs.length = nN := ho6.len
  have hc6 : nN ≤ c6 := ho6.cap.1
  have HN6 := hide ho6.nilc
  have HF := hide hf
  have HB1 := hide hb1
  have hz1 := hb1.size
  have HR6 := hide ho6.rd
  have HCB := hide (bf_impl hf h5 h7 ho6.rd hc6)
  have hbk := best_ok hf (by omega)
  have HVr := hide (best_rev cs)
  have HVs := hide (best_shift hf.2)
  have HSub := hide (best_sub cs)
  have HKd := hide (valL_kind hbk.2.1 hbk.1)
  have HLow := hide (best_first (xs := cs) (by omega))
  have HBS := hide (fun (W : World) (hR : Rd W W.heap.size A6 nN cs) => bf_spec hf h5 h7 hR hc6)
  obtain ⟨V, hV⟩ := ex_eq (bestL cs).2
  obtain ⟨FV, hFV⟩ := ex_eq (bestL cs).1
  rw [hV] at HCB HVr HVs hbk HLow
  rw [hFV] at HCB HSub HKd hbk
  have HBS := hide (fun (W : World) (hR : Rd W W.heap.size A6 nN cs) => by
    have h1 := HBS.out W hR
    rw [hV, hFV] at h1
    exact h1)
  have HV := hide hV
  have HFF := hide hbk.2.1
  have HVV := hide hbk.2.2.1
  have hV0 : 0 ≤ V := hbk.2.2.2.1
  have hV9 : V < 3341637 := hbk.2.2.2.2
  have HF5 := hide hbk.1
  rw [hbk.2.2.1] at HKd
  have hcl2 := hide hcl
  clear HC HL hf ho6 hb1 hbk hV hFV hcl
  go_upto_region 6 with (go_at_call 25; refine HCB.out.mono ?_; rintro e w2 ⟨A7, c7, rfl, ho7, hb2⟩)
  have hz2 := hb2.size
  have hc7 : 5 ≤ c7 := ho7.cap.1
  have HR7 := hide ho7.rd
  have HB2 := hide (HB1.out.trans (hb2.mono hz1))
  have HR62 := hide ((HR6.out.below hb2).more hz2)
  have HT0 := hide (show Tw w2 ((w2.alloc (.cells #[] 2)).alloc (.cells #[] 2)) (.slice (some ⟨w2.heap.size, 0, none⟩) 0 0) (.slice (some ⟨w2.heap.size + 1, 0, none⟩) 0 0) [] [] from
    ⟨(Lst.new w2 (Nat.le_refl _)).alloc _, Lst.new' (w2.alloc (.cells #[] 2)) (by simp) (by simp), .inr (by simp [Value.ownBlock]), ((Below.refl _ _).alloc (Nat.le_refl _) _).alloc (by simp) _⟩)
  clear HCB HR6 ho7 hb2
  go_wp2
  have HRL := hide (show cs.reverse.length = nN by rw [List.length_reverse]; exact hcl2.out)
  have HSL := hide (show (cs.map shS).length = nN by rw [List.length_map]; exact hcl2.out)
  have HRat := hide (fun k (hk : k < nN) => rev_at hcl2.out hk)
  have HSat := hide (fun k (hk : k < nN) => sh_at (xs := cs) (show k < cs.length by rw [hcl2.out]; exact hk))
  obtain ⟨RV, hRV⟩ := ex_eq cs.reverse
  obtain ⟨SH, hSH⟩ := ex_eq (cs.map shS)
  rw [hRV] at HRL HRat HVr
  rw [hSH] at HSL HSat HVs
  have HRV := hide hRV
  have HSH := hide hSH
  clear hRV hSH
  go_loopw [10, 11, 65] (fun v1 v2 i wr => ∃ k : Nat, k ≤ nN ∧ i = .int .i64 k ∧ Tw w2 wr v1 v2 (RV.take k) (SH.take k)) (fun _ _ i _ => nN - (intOf i).toNat)
  case atStart => exact ⟨0, Nat.zero_le _, rfl, HT0.out⟩
  case round =>
    obtain ⟨k, hk, rfl, hT⟩ := hrel
    have hzr := hT.low.size
    by_cases hlt : k < nN
    · obtain ⟨b, o, rfl, hbB, hcell⟩ := HR62.out.2 (by omega)
      have hc1 := (hT.low.cell (p := ⟨b, o + (nN - 1 - k), none⟩) hbB).trans (hcell (nN - 1 - k) (by omega))
      have hc2 := hcell k hlt
      have hr1 := HRat.out k hlt
      have hs1 := HSat.out k hlt
      have hrt := take_next (xs := RV) (k := k) (by rw [HRL.out]; exact hlt)
      have hst := take_next (xs := SH) (k := k) (by rw [HSL.out]; exact hlt)
      have hyr := HF.out.2 (cs.getD k 0) (getD_mem0 (by rw [hcl2.out]; exact hlt))
      rw [hr1] at hrt
      rw [hs1] at hst
      obtain ⟨x, hx⟩ := ex_eq (cs.getD (nN - 1 - k) 0)
      obtain ⟨y, hy⟩ := ex_eq (cs.getD k 0)
      rw [hx] at hc1 hrt
      rw [hy] at hc2 hst hyr
      have hsy : shS y = (y + 13) % 52 := rfl
      rw [hsy] at hst
      have hlr : (RV.take k).length = k := by rw [List.length_take, HRL.out]; omega
      have hls : (SH.take k).length = k := by rw [List.length_take, HSL.out]; omega
      obtain ⟨RK, hRK⟩ := ex_eq (RV.take k)
      obtain ⟨SK, hSK⟩ := ex_eq (SH.take k)
      rw [hRK] at hrt hT hlr
      rw [hSK] at hst hT hls
      have HRT := hide hrt
      have HST := hide hst
      have HT := hide hT
      have hq1 : ((nN : Int) - 1 - (k : Int)).toNat = nN - 1 - k := by omega
      clear hr1 hs1 hx hy hsy hrt hst hRK hSK hcell hT
      go_upto_region 12 with (at_builtin; refine wpList_app rfl (.tmp 68) (.tmp 77) rfl w2.heap.size _ RK [x] rfl (HT.out.a.alloc _) (some ⟨wr.heap.size, 0, none⟩) 1 1 rfl (rd_one wr x 2) (fun h => by cases h) (by rw [hlr]; omega) (by simp; omega) ?_; intro v4 w4 ho4 hg4 hk4)
      have hT4 := HT.out.push1 _ ho4 hg4 hk4
      rw [← HRT.out] at hT4
      have hc3 := (hT4.low.cell (p := ⟨b, o + k, none⟩) hbB).trans hc2
      have HT4 := hide hT4
      have hz4 := hT4.low.size
      clear ho4 hg4 hk4 hT4 hc1 hc2
      go_wp2_with (at_builtin; refine wpList_app rfl (.tmp 79) (.tmp 86) rfl w2.heap.size _ SK [(y + 13) % 52] rfl (HT4.out.b.alloc _) (some ⟨w4.heap.size, 0, none⟩) 1 1 rfl (rd_one w4 ((y + 13) % 52) 2) (fun h => by cases h) (by rw [hls]; omega) (by simp; omega) ?_; intro v5 w5 ho5 hg5 hk5)
      have hT5 := HT4.out.push2 _ ho5 hg5 hk5
      rw [← HST.out] at hT5
      have HT5 := hide hT5
      clear ho5 hg5 hk5 hT5 hc3
      (try go_wp2)
      go_roundw
      case rel => exact ⟨k + 1, by omega, by go_num, HT5.out⟩
      case measure => simp [intOf]; omega
    · obtain rfl : k = nN := by omega
      have hT' := hT
      rw [List.take_of_length_le (by rw [HRL.out]; omega), List.take_of_length_le (by rw [HSL.out]; omega)] at hT'
      obtain ⟨A10, c10, rfl, ho10⟩ := hT'.a.formn HRL.out
      obtain ⟨A11, c11, rfl, ho11⟩ := hT'.b.formn HSL.out
      have HB0 := hide (Below.refl wr.heap.size wr)
      have HBW := hide (fun W (hb : Below wr.heap.size wr W) => (HB2.out.trans (hT'.low.mono HB2.out.size)).trans (hb.mono (HB2.out.trans (hT'.low.mono HB2.out.size)).size))
      have R6 := hide (fun W (hb : Below wr.heap.size wr W) => (((HR62.out.below hT'.low).more hT'.low.size).below hb).more hb.size)
      have R7 := hide (fun W (hb : Below wr.heap.size wr W) => (((HR7.out.below hT'.low).more hT'.low.size).below hb).more hb.size)
      have R10 := hide (fun W (hb : Below wr.heap.size wr W) => (ho10.rd.below hb).more hb.size)
      have R11 := hide (fun W (hb : Below wr.heap.size wr W) => (ho11.rd.below hb).more hb.size)
      have hc10 : k ≤ c10 := ho10.cap.1
      have hc11 : k ≤ c11 := ho11.cap.1
      have HN10 := hide ho10.nilc
      have FR := hide (show Fine RV by rw [← HRV.out]; exact fine_rev HF.out)
      have FS := hide (show Fine SH by rw [← HSH.out]; exact fine_shift HF.out)
      have C14 := hide (fun W (hb : Below wr.heap.size wr W) => by
        have h1 := bf_impl FR.out h5 h7 (R10.out W hb) hc10
        rw [HVr.out] at h1
        exact h1)
      have C15 := hide (fun W (hb : Below wr.heap.size wr W) => by
        have h1 := bf_impl FS.out h5 h7 (R11.out W hb) hc11
        rw [HVs.out] at h1
        exact h1)
      have C16 := hide (fun W (hb : Below wr.heap.size wr W) => by
        have h1 := vo_impl HFF.out (R7.out W hb) hc7
        rw [HVV.out] at h1
        exact h1)
      have C17 := hide (fun W (hb : Below wr.heap.size wr W) => by
        have h1 := ko_impl HFF.out (R7.out W hb) hc7
        rw [← HKd.out] at h1
        exact h1)
      have C18 := hide (fun W (hb : Below wr.heap.size wr W) => HBS.out W (R6.out W hb))
      have C19 := hide (fun W (hb : Below wr.heap.size wr W) => ch_impl HF.out FS.out h5 h7 (by rw [HVs.out, HV.out]) (R6.out W hb) hc6 (R11.out W hb) hc11)
      have C19b := hide (fun W (hb : Below wr.heap.size wr W) => ih_impl HF.out h5 h7 (R6.out W hb) hc6)
      clear hT hT' ho10 ho11 HT0 HRat HSat HR62 HR7 hzr hk hlt HRL HSL HBS
      go_upto_region 15 with (go_at_call 25; refine (C14.out _ HB0.out).mono ?_; clear C14; rintro e w3 ⟨A13, c13, rfl, _, hb3⟩)
      have HHB3 := hide (HB0.out.trans (hb3.mono HB0.out.size))
      clear hb3
      go_upto_region 16 with (go_at_call 25; refine (C15.out _ HHB3.out).mono ?_; clear C15; rintro e w4 ⟨A16, c16, rfl, _, hb4⟩)
      have HHB4 := hide (HHB3.out.trans (hb4.mono HHB3.out.size))
      clear hb4
      go_upto_region 17 with (go_at_call 23; refine (C16.out _ HHB4.out).mono ?_; clear C16; rintro e w5 ⟨rfl, hb5⟩)
      have HHB5 := hide (HHB4.out.trans (hb5.mono HHB4.out.size))
      clear hb5
      go_upto_region 18 with (go_at_call 21; refine (C17.out _ HHB5.out).mono ?_; clear C17; rintro e w6 ⟨rfl, hb6⟩)
      have HHB6 := hide (HHB5.out.trans (hb6.mono HHB5.out.size))
      clear hb6
      go_upto_region 19 with (go_at_call 24; refine (C18.out _ HHB6.out).mono ?_; clear C18; rintro e w7 ⟨A23, c23, rfl, ho23, hb7⟩)
      have HHB7 := hide (HHB6.out.trans (hb7.mono HHB6.out.size))
      have R23 := hide (fun W (hb : Below w7.heap.size w7 W) => (ho23.rd.below hb).more hb.size)
      clear ho23
      clear hb7
      clear HHB3 HHB4 HHB5 HHB6
      have CI := hide (fun W (hb : Below w7.heap.size w7 W) => b10Ints_same A7 5 c7 FV A23 c23 W.heap.size W.heap.size W (R7.out W (HHB7.out.trans (hb.mono HHB7.out.size))) (R23.out W hb) (by omega))
      go_upto_region 22 with (first | (go_at_call 29; refine (C19.out _ HHB7.out).mono ?_; clear C19; rintro e w8 ⟨rfl, hb8⟩; have HHB8 := hide (HHB7.out.trans (hb8.mono HHB7.out.size))) | (go_at_call 18; refine (C19b.out _ HHB8.out).mono ?_; clear C19b; rintro e w9 ⟨rfl, hb9⟩; have hb9' := hb8.trans (hb9.mono hb8.size); have HHB9 := hide (HHB7.out.trans (hb9'.mono HHB7.out.size))) | (go_at_call 49; refine (CI.out _ hb9').mono ?_; clear CI; rintro e w10 ⟨q10, rfl, rfl⟩))
      have hb10 : Below w7.heap.size w7 (w9.drewN q10) := hb9'.trans ((below_drewN (Below.refl _ _) q10).mono hb9'.size)
      obtain ⟨wa, hwa⟩ : ∃ wa, wa = w9.drewN q10 := ⟨_, rfl⟩
      rw [← hwa] at hb10
      rw [← hwa]
      have HHA := hide (HHB7.out.trans (hb10.mono HHB7.out.size))
      have CH := hide (fun x => b10Has_any A6 k c6 cs x wa.heap.size wa (R6.out wa HHA.out) (by omega))
      have HR7a := hide (R7.out wa HHA.out)
      clear hb8 hb9 hb9' hb10 hwa HHB7 HHB8 HHB9 R23 R7
      go_wp2
      go_loop [192] (fun i => ∃ j : Nat, j ≤ 5 ∧ i = .int .i64 j) (fun i => 5 - (intOf i).toNat)
      case atStart => exact ⟨0, Nat.zero_le _, rfl⟩
      case round =>
        obtain ⟨j, hj, rfl⟩ := hrel
        by_cases hlt : j < 5
        · obtain ⟨b, o, rfl, _, hc⟩ := HR7a.out.at_ hlt
          have hin : hasB cs (FV.getD j 0) = true := decide_eq_true (HSub.out _ (getD_mem0 (by rw [HF5.out]; exact hlt)))
          have CH1 := CH.out (FV.getD j 0)
          rw [hin] at CH1
          obtain ⟨x, hx⟩ := ex_eq (FV.getD j 0)
          rw [hx] at hc CH1
          have CH1 := hide CH1
          clear hin hx
          go_wp2_with (go_at_call 50; refine CH1.out.mono ?_; rintro e w' ⟨rfl, rfl⟩)
          go_round
          case rel => exact ⟨j + 1, by omega, by go_num⟩
          case measure => simp [intOf]; omega
        · obtain rfl : j = 5 := by omega
          clear hlt hj CH HR7a
          have hfs := face_shift HF.out (by rw [hcl2.out]; omega)
          have C28 := hide (fun W (hb : Below wr.heap.size wr W) => fo_impl HF.out h5 h7 (R6.out W hb) hc6)
          have C29 := hide (fun W (hb : Below wr.heap.size wr W) => by
            have h1 := fo_impl FS.out h5 h7 (R11.out W hb) hc11
            rw [← HSH.out, hfs] at h1
            exact h1)
          have C30 := hide (fun W (hb : Below wr.heap.size wr W) => fo_spec HF.out h5 h7 (R6.out W hb) hc6)
          obtain ⟨FM, hFM⟩ := ex_eq (faceM ords24 cs)
          rw [hFM] at C28 C29 C30
          clear hfs hFM
          go_upto_region 29 with (go_at_call 39; refine (C28.out _ HHA.out).mono ?_; clear C28; rintro e wb ⟨A29, c29, rfl, ho29, hbb⟩)
          have HHB := hide (HHA.out.trans (hbb.mono HHA.out.size))
          have R29 := hide (fun W (hb : Below wb.heap.size wb W) => (ho29.rd.below hb).more hb.size)
          clear ho29
          clear hbb
          go_upto_region 30 with (go_at_call 39; refine (C29.out _ HHB.out).mono ?_; clear C29; rintro e wc ⟨A31, c31, rfl, ho31, hbc⟩)
          have HHC := hide (HHB.out.trans (hbc.mono HHB.out.size))
          have R31 := hide (fun W (hb : Below wc.heap.size wc W) => (ho31.rd.below hb).more hb.size)
          have HBC := hide hbc
          clear ho31
          clear hbc
          go_upto_region 31 with (go_at_call 38; refine (C30.out _ HHC.out).mono ?_; clear C30; rintro e wd ⟨A33, c33, rfl, ho33, hbd⟩)
          have HHD := hide (HHC.out.trans (hbd.mono HHC.out.size))
          have R33 := hide (fun W (hb : Below wd.heap.size wd W) => (ho33.rd.below hb).more hb.size)
          have HBD := hide hbd
          clear ho33
          clear hbd
          have CI1 := hide (b10Ints_same A29 k c29 FM A31 c31 wd.heap.size wd.heap.size wd (R29.out wd (HBC.out.trans (HBD.out.mono HBC.out.size))) (R31.out wd HBD.out) (by omega))
          have CI2 := hide (fun q => b10Ints_same A29 k c29 FM A33 c33 wd.heap.size wd.heap.size (wd.drewN q) ((R29.out wd (HBC.out.trans (HBD.out.mono HBC.out.size))).drewN q) ((R33.out wd (Below.refl _ _)).drewN q) (by omega))
          clear HHB HHC R29 R31 R33 HBC HBD
          go_upto_region 33 with (go_at_call 49; first | (refine CI1.out.mono ?_; clear CI1; rintro e w' ⟨q1, rfl, rfl⟩) | (refine (CI2.out _).mono ?_; clear CI2; rintro e w' ⟨q2, rfl, rfl⟩))
          have hbe : Below wd.heap.size wd (wd.drewN (q1 + q2)) := below_drewN (Below.refl _ _) (q1 + q2)
          obtain ⟨we, hwe⟩ : ∃ we, we = wd.drewN (q1 + q2) := ⟨_, rfl⟩
          rw [← hwe] at hbe
          rw [← hwe]
          have HHE := hide (HHD.out.trans (hbe.mono HHD.out.size))
          clear hbe hwe HHD HHA
          obtain ⟨b6, o6, rfl, hb6B⟩ := (show ∃ b o, A6 = some ⟨b, o, none⟩ ∧ b < we.heap.size by obtain ⟨b, o, e, h, _⟩ := (R6.out we HHE.out).2 (by omega); exact ⟨b, o, e, h⟩)
          have hT5 : (cs.take 5).length = 5 := by rw [List.length_take, hcl2.out]; omega
          have HR5 := hide ((R6.out we HHE.out).take h5)
          have HFI := hide (HF.out.sub (List.take_sublist 5 cs))
          have hLW := valL_range HFI.out.1 HFI.out.2 hT5
          obtain ⟨FI, hFI⟩ := ex_eq (cs.take 5)
          rw [hFI] at HR5 HFI hLW hT5 HLow
          have HLI := hide (show ([] ++ FI).length = 5 by rw [List.nil_append]; exact hT5)
          have HL5 := hide hT5
          have HL0 := hide (Lst.new we (Nat.le_refl we.heap.size))
          have HBW0 := hide ((Below.refl we.heap.size we).alloc (Nat.le_refl _) (.cells #[] 2))
          have h5c : 5 ≤ c6 := by omega
          clear hFI hT5
          go_upto_region 34 with (at_builtin; refine wpList_app rfl (.tmp 240) (.tmp 242) rfl we.heap.size _ [] FI rfl HL0.out (some ⟨b6, o6, none⟩) 5 c6 rfl ((HR5.out.alloc (Nat.le_refl _) _).more (by simp)) (fun h => by cases h) (by simp) (by simp) ?_; intro vf wf hof hgf _)
          have hbf : Below we.heap.size we wf := HBW0.out.trans (Lst.grown HL0.out hgf (by simp))
          obtain ⟨A35, c35, rfl, ho35⟩ := hof.formn HLI.out
          rw [List.nil_append] at ho35
          have HHF := hide (HHE.out.trans (hbf.mono HHE.out.size))
          have R35 := hide (fun W (hb : Below wf.heap.size wf W) => (ho35.rd.below hb).more hb.size)
          have hc35 : 5 ≤ c35 := ho35.cap.1
          have HFB := hide (Below.refl wf.heap.size wf)
          have C34 := hide (fun W (hb : Below wf.heap.size wf W) => vo_spec HFI.out (R35.out W hb) hc35)
          have C35 := hide (fun (v : Int) W (hb : Below wf.heap.size wf W) => oo_impl HFI.out v (R35.out W hb) hc35)
          obtain ⟨LW, hLW'⟩ := ex_eq (valL FI)
          rw [hLW'] at C34 hLW HLow
          have hl0 := hLW.1
          have hl1 := hLW.2
          have C35 := hide (C35.out (LW + 1))
          have HOL := outsL_len FI (LW + 1)
          have HKn := hide (fun c => outs_known (xs := FI) (v := LW + 1) (c := c))
          have HNw := hide (fun (c : Nat) => outs_new (xs := FI) (v := LW + 1) (c := c))
          obtain ⟨OL, hOL⟩ := ex_eq (outsL FI (LW + 1))
          rw [hOL] at C35 HOL HKn HNw
          obtain ⟨lO, hlO⟩ := ex_eq OL.length
          rw [hlO] at C35 HOL
          clear hLW hLW' hOL hlO hof hgf hbf ho35 HHE HL0 HBW0 HLI HR5
          go_upto_region 35 with (go_at_call 22; refine (C34.out _ HFB.out).mono ?_; clear C34; rintro e wg ⟨rfl, hbg⟩)
          have HFG := hide (HFB.out.trans (hbg.mono HFB.out.size))
          clear hbg
          go_upto_region 36 with (go_at_call 37; refine (C35.out _ HFG.out).mono ?_; clear C35; rintro e wh ⟨A38, c38, rfl, ho38, hbh⟩)
          have HFH := hide (HFG.out.trans (hbh.mono HFG.out.size))
          have R38 := hide (fun W (hb : Below wh.heap.size wh W) => (ho38.rd.below hb).more hb.size)
          clear ho38
          clear hbh
          clear HFB HFG
          have HHH := hide (HHF.out.trans (HFH.out.mono HHF.out.size))
          have CBS := hide (bs_impl2 HF.out FR.out h5 h7 HV.out HVr.out (R6.out wh HHH.out) hc6 HN6.out (R10.out wh HHH.out) hc10 HN10.out)
          have HBO := hide ((Below.refl wh.heap.size wh).alloc (Nat.le_refl _) (.cells #[.slice (some ⟨b6, o6, none⟩) k c6, .slice A10 k c10] 22))
          have CA1 := hide (HA.out _ (HBW.out _ (HHH.out.trans (HBO.out.mono HHH.out.size))) 1 8 (by omega) (by omega) (by omega))
          go_upto_region 37 with (first | (go_at_call 47; refine CA1.out.mono ?_; clear CA1; rintro e w' ⟨r1, rfl, hr1, rfl⟩) | (go_at_call 33; refine (CBS.out (1 + (r1 : Int)) (by omega) (by omega)).mono ?_; clear CBS; rintro e wi ⟨A40, c40, rfl, ho40, hbi⟩))
          have hbhi := HBO.out.trans (hbi.mono HBO.out.size)
          obtain ⟨g40, rfl, _⟩ := ho40.form (by omega)
          obtain ⟨b, o, eb, _, hc40⟩ := ho40.rd.2 (by omega)
          obtain ⟨rfl, rfl⟩ : g40 = b ∧ 0 = o := by simpa using eb
          have hv0 : wi.cell? ⟨g40, 0, none⟩ = some (.int .i64 V) := hc40 0 (by omega)
          have hv1 : wi.cell? ⟨g40, 1, none⟩ = some (.int .i64 V) := hc40 1 (by omega)
          have R38i := hide (fun W (hb : Below wi.heap.size wi W) => ((R38.out wi hbhi).below hb).more hb.size)
          have HFI' := hide (HFH.out.trans (hbhi.mono HFH.out.size))
          have R35i := hide (fun W (hb : Below wi.heap.size wi W) => R35.out W (HFI'.out.trans (hb.mono HFI'.out.size)))
          have HHI := hide (HHF.out.trans (HFI'.out.mono HHF.out.size))
          have HBI := hide (fun W (hb : Below wi.heap.size wi W) => HBW.out W (HHI.out.trans (hb.mono HHI.out.size)))
          have dl : decide (V < LW) = false := decide_eq_false (by have := HLow.out; omega)
          have HI0 := hide (Below.refl wi.heap.size wi)
          clear hc40 eb ho40 hbi hbhi HBO R38 R35 HHI HFI' HHF HFH HHH HBW R6 R10 R11 HLow HVr HVs HV HVV HKd HSub HFF HF5
          go_wp2
          clear hv0 hv1 dl
          go_loopw [42] (fun cv wr => ∃ x : Nat, x ≤ 60 ∧ cv = .int .i64 x ∧ Below wi.heap.size wi wr) (fun cv _ => 52 - (intOf cv).toNat)
          case atStart => exact ⟨0, Nat.zero_le _, rfl, HI0.out⟩
          case round =>
            obtain ⟨x, hx60, rfl, hbx⟩ := hrel
            have HBX := hide hbx
            clear hbx
            by_cases hlt : x < 52
            · have CA := hide (fun W (hb : Below wi.heap.size wi W) => HA.out W (HBI.out W hb) 2 5 (by omega) (by omega) (by omega))
              have CF := hide (fun W (hb : Below wi.heap.size wi W) => b10Has_any A35 5 c35 FI (x : Int) W.heap.size W (R35i.out W hb) (by omega))
              have CO := hide (fun W (hb : Below wi.heap.size wi W) => b10Has_any A38 lO c38 OL (x : Int) W.heap.size W (R38i.out W hb) (by omega))
              cases hh : hasB FI (x : Int)
              · have hrd := R35i.out wr HBX.out
                obtain ⟨b35, o35, rfl, hbB35, hcell35⟩ := hrd.2 (by omega)
                have HR35 := hide (show Rd (wr.alloc (.cells #[] 2)) (wr.alloc (.cells #[] 2)).heap.size (some ⟨b35, o35, none⟩) 5 FI from (hrd.alloc (Nat.le_refl _) _).more (by simp))
                clear hbB35 hcell35 hrd
                have hfx := fine_add HFI.out (x := (x : Int)) (by omega) (by omega) hh
                have hKN := HNw.out x hlt hh
                obtain ⟨BX, hBX⟩ := ex_eq (bestV FI (x : Int))
                have CB := hide (fun A c W (hR : Rd W W.heap.size A 6 (([] ++ FI) ++ [(x : Int)])) (hc : 6 ≤ c) => by
                  rw [List.nil_append] at hR
                  have h1 := bf_spec hfx (by omega) (by omega) hR hc
                  rw [show (bestL (FI ++ [(x : Int)])).2 = BX from hBX] at h1
                  exact h1)
                rw [hBX] at hKN
                rw [hh] at CF
                rw [hKN] at CO
                obtain ⟨q, e1, e2⟩ : ∃ q : Bool, decide (LW + 1 ≤ BX) = q ∧ decide (LW < BX) = q := ⟨decide (LW < BX), decide_eq_decide.2 (by omega), rfl⟩
                rw [e1] at CO
                have CF := hide (CF.out _ HBX.out)
                have hl5 : FI.length = 5 := HL5.out
                have HL0 := hide (Lst.new wr (Nat.le_refl wr.heap.size))
                have HBW0 := hide ((Below.refl wr.heap.size wr).alloc (Nat.le_refl _) (.cells #[] 2))
                clear hh hBX hfx hKN e1
                go_upto_region 45 with (go_at_call 50; refine CF.out.mono ?_; clear CF; rintro e w' ⟨rfl, rfl⟩)
                have HL6 := hide (show (([] ++ FI) ++ [(x : Int)]).length = 6 by simp; exact hl5)
                go_upto_region 46 with (first | (have hr35 := HR35.out; at_builtin; refine wpList_app rfl (.tmp 314) (.tmp 315) rfl wr.heap.size _ [] FI rfl HL0.out (some ⟨b35, o35, none⟩) 5 c35 rfl hr35 (fun h => by cases h) (by simp) (by simp) ?_; intro v4 w4 ho4 hg4 hk4; have HB4 := hide (HBW0.out.trans (Lst.grown HL0.out hg4 (by simp))); have hz4 := HB4.out.size; clear HR35 HL0 hr35 hg4 hk4) | (at_builtin; refine wpList_app rfl (.tmp 316) (.tmp 318) rfl wr.heap.size _ ([] ++ FI) [(x : Int)] rfl (ho4.alloc _) (some ⟨w4.heap.size, 0, none⟩) 1 1 rfl (rd_one w4 (x : Int) 2) (fun h => by cases h) (by simp; omega) (by simp; omega) ?_; intro v5 w5 ho5 hg5 hk5; have HB5 := hide ((HB4.out.alloc hz4 _).trans (Lst.grown (ho4.alloc _) hg5 (by simp; omega))); obtain ⟨A50, c50, rfl, ho50⟩ := ho5.formn HL6.out; have HR50 := hide ho50.rd; have hc50 : 6 ≤ c50 := ho50.cap.1; clear ho4 hg5 hk5 ho5 ho50) | (go_at_call 24; refine (CB.out A50 c50 _ HR50.out hc50).mono ?_; clear CB; rintro e w6 ⟨A60, c60, rfl, _, hb6⟩))
                have HF6 := hide (HBX.out.trans ((HB5.out.trans (hb6.mono HB5.out.size)).mono HBX.out.size))
                clear hb6 HB5 HB4 HBW0 HR50
                have CO := hide (CO.out w6 HF6.out)
                have CA := hide (CA.out w6 HF6.out)
                cases q
                · go_wp2_with (first | (go_at_call 50; refine CO.out.mono ?_; clear CO; rintro e w' ⟨rfl, rfl⟩) | (go_at_call 47; refine CA.out.mono ?_; clear CA; rintro e w' ⟨r2, rfl, hr2, rfl⟩))
                  go_roundw
                  case rel => exact ⟨x + (1 + r2), by omega, congrArg (Value.int .i64) (by omega), HF6.out⟩
                  case measure => simp [intOf]; omega
                · go_wp2_with (first | (go_at_call 50; refine CO.out.mono ?_; clear CO; rintro e w' ⟨rfl, rfl⟩) | (go_at_call 47; refine CA.out.mono ?_; clear CA; rintro e w' ⟨r2, rfl, hr2, rfl⟩))
                  go_roundw
                  case rel => exact ⟨x + (1 + r2), by omega, congrArg (Value.int .i64) (by omega), HF6.out⟩
                  case measure => simp [intOf]; omega
              · have hko := HKn.out _ hh
                rw [hh] at CF
                rw [hko] at CO
                have CF := hide (CF.out _ HBX.out)
                have CO := hide (CO.out _ HBX.out)
                have CA := hide (CA.out _ HBX.out)
                clear hh hko
                go_wp2_with (first | (go_at_call 50; first | (refine CF.out.mono ?_; clear CF; rintro e w' ⟨rfl, rfl⟩) | (refine CO.out.mono ?_; clear CO; rintro e w' ⟨rfl, rfl⟩)) | (go_at_call 47; refine CA.out.mono ?_; clear CA; rintro e w' ⟨r2, rfl, hr2, rfl⟩))
                go_roundw
                case rel => exact ⟨x + (1 + r2), by omega, congrArg (Value.int .i64) (by omega), HBX.out⟩
                case measure => simp [intOf]; omega
            · go_wp2
              go_ret
              exact ⟨rfl, HBI.out _ HBX.out⟩

end Go.Proofs.Ytlldocdmjeeaaaa.hand
