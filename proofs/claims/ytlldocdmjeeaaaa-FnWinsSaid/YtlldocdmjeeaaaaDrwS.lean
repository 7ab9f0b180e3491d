/-
  Boards that are drawn and met, in the reference. Conditions: those of each theorem.
-/
import Derived.Test.YtlldocdmjeeaaaaWinS
import Derived.Test.YtlldocdmjeeaaaaDrwP
namespace Go.Proofs.Ytlldocdmjeeaaaa.hand
open Go.RowKit
open base mem grid

def lenOf : Value → Nat
  | .slice _ n _ => n
  | _ => 0
theorem dwR_eq {pss : List (List Int)} {bs : List Int} {a b D : List Int} {sd s' : Nat} (h : drB pss (5 - bs.length) bs sd = (D, s')) : dwR pss bs ((a, b), sd) = ((meetW pss D a, meetT pss D b), s') := by
  unfold dwR
  simp only [h]
theorem run_mul64 (a b : Int) (w : World) : (binOp .mul 2 (.int .i64 a) (.int .i64 b)).run Try.prog w = .ok (.int .i64 (wrap64 (a * b))) w := by
  simp [go_sem]; exact IntWalk.i64_left _
theorem run_quo64 (a : Int) (w : World) : (binOp .quo 2 (.int .i64 a) (.int .i64 4294967296)).run Try.prog w = .ok (.int .i64 (wrap64 (a.tdiv 4294967296))) w := by
  simp [go_sem]; exact IntWalk.i64_left _
theorem wpList_bin {w : World} {ops : Array Oper} {rest : List Oper} {o : Oper} {a : Act} {Q : Exit → Act → World → Prop} (hgd : o.guard = none) (op : BinOp) (T rt : TypeId) (x y : Operand) (ho : o.op = .binOp op T x y rt)
    (vx vy v : Value) (hx : a.eval x = vx) (hy : a.eval y = vy) (hgu : ∀ w, (eqGuard op T x y vx vy).run Try.prog w = .ok () w) (hrun : ∀ w, (binOp op T vx vy).run Try.prog w = .ok v w) (h : wpList Try.prog ops Q rest (a.put o.dst v) w) : wpList Try.prog ops Q (o :: rest) a w :=
  wpList_plain hgd fun K hK => by
    unfold Oper.wp execOp
    simp only [ho, Sem.run_bind, Sem.run_pure, Result.andThen_ok, hx, hy, hgu, hrun]
    exact hK _ _ h
/-- memory while boards are drawn and met -/
structure DS (w0 w : World) (A : Option Addr) (m c gS gw gt : Nat) (st : List Int × List Int) : Prop where
  nod : gS ≠ gw ∧ gS ≠ gt ∧ gw ≠ gt
  low : w0.heap.size ≤ gS ∧ w0.heap.size ≤ gw ∧ w0.heap.size ≤ gt
  box : Blk w gS 67 #[.slice A m c, .slice (some ⟨gw, 0, none⟩) m m, .slice (some ⟨gt, 0, none⟩) m m]
  winL : Own w 0 (some ⟨gw, 0, none⟩) m m st.1
  tieL : Own w 0 (some ⟨gt, 0, none⟩) m m st.2
  below : Below w0.heap.size w0 w
section
variable {w0 w w' : World} {A : Option Addr} {m c gS gw gt : Nat} {st st' : List Int × List Int}
theorem DS.kept (h : DS w0 w A m c gS gw gt st) (hb : Below w.heap.size w w') : DS w0 w' A m c gS gw gt st :=
  ⟨h.nod, h.low, h.box.below hb h.box.lt, h.winL.below hb (Nat.le_refl _), h.tieL.below hb (Nat.le_refl _), h.below.trans (hb.mono h.below.size)⟩
theorem DS.meet (h : DS w0 w A m c gS gw gt st) (ht : Two w w' gw gt) (hw : Own w' 0 (some ⟨gw, 0, none⟩) m m st'.1) (htl : Own w' 0 (some ⟨gt, 0, none⟩) m m st'.2) : DS w0 w' A m c gS gw gt st' :=
  ⟨h.nod, h.low, blk_same h.box (ht.block _ h.box.lt h.nod.1 h.nod.2.1), hw, htl, h.below.trans (ht.below h.low.2.1 h.low.2.2 h.below.size)⟩
end

set_option maxRecDepth 100000 in
set_option maxHeartbeats 8000000 in
theorem spec_DrawnWins (A : Option Addr) (m c : Nat) (ts : List Sl) (pss : List (List Int)) (A2 : Option Addr) (n c2 : Nat) (bs : List Int) (sd0 ct0 : Int) (w : World) (hR : RdS w w.heap.size A m ts) (he : con ts = pss) (hm : m ≤ 1048576) (hM : ∀ p ∈ pss, p.length ≤ 1048576)
    (hY : Rd w w.heap.size A2 n bs) (hn : n ≤ 1048576) (_hnc : n ≤ c2) (hno : A2 = none → c2 = 0) :
    Calls Try.prog 44 #[.slice A m c, .slice A2 n c2, .int .i64 sd0, .int .i64 ct0] w fun e w' => ∃ A' C' A3 C3, e = .returned (.tuple #[.slice A' (drwW pss bs sd0 ct0).length C', .slice A3 (drwT pss bs sd0 ct0).length C3, .int .i64 (drwN pss bs sd0 ct0), .bool (drwOk pss bs sd0 ct0)]) ∧
      Own w' w.heap.size A' (drwW pss bs sd0 ct0).length C' (drwW pss bs sd0 ct0) ∧ Own w' w.heap.size A3 (drwT pss bs sd0 ct0).length C3 (drwT pss bs sd0 ct0) ∧ Sep (.slice A' (drwW pss bs sd0 ct0).length C') (.slice A3 (drwT pss bs sd0 ct0).length C3) ∧ Below w.heap.size w w' := by
  have hl : pss.length = m := by rw [← he, con_len, hR.len]
  have hyl := hY.len
  have hcan := spec_can A m c ts pss A2 n c2 bs 0 w hR he hm hM hY hn (fun _ => hno) (by omega)
  cases hk : canB pss bs 0
  · rw [hk] at hcan
    have HC := hide hcan
    have h0 : drwOk pss bs sd0 ct0 = false := by simp [drwOk, hk]
    have h1 : drwW pss bs sd0 ct0 = [] := by simp [drwW, h0]
    have h2 : drwT pss bs sd0 ct0 = [] := by simp [drwT, h0]
    have h3 : drwN pss bs sd0 ct0 = 0 := by simp [drwN, h0]
    rw [h0, h1, h2, h3]
    clear hcan hk
    clear h0 h1 h2 h3 hR hY he hM hno
    go_enter Try.func44, Try.ntmps44
    go_wp2_with (first | (go_at_call 73; refine HC.out.mono ?_; rintro e w1 ⟨rfl, hb⟩) | (go_at_call 62; refine (l00In_any _ _ _ _).mono ?_; rintro e w' ⟨rfl, rfl⟩; first | rw [HK2.out] | rw [HK3.out]))
    have HB := hide hb
    clear hb
    go_wp2
    (try simp only [Exit.inBlock, Exit.then])
    refine bodyPost_ret (results_four rfl _ _ _) rfl ?_
    exact ⟨none, 0, none, 0, rfl, Own.nil _ _, Own.nil _ _, .inl rfl, HB.out⟩
  rw [hk] at hcan
  have HC := hide hcan
  clear hcan
  cases hk2 : inB sd0 0 4294967295
  · have HK2 := hide hk2
    have h0 : drwOk pss bs sd0 ct0 = false := by simp [drwOk, hk2]
    have h1 : drwW pss bs sd0 ct0 = [] := by simp [drwW, h0]
    have h2 : drwT pss bs sd0 ct0 = [] := by simp [drwT, h0]
    have h3 : drwN pss bs sd0 ct0 = 0 := by simp [drwN, h0]
    rw [h0, h1, h2, h3]
    clear hk hk2
    clear h0 h1 h2 h3 hR hY he hM hno
    go_enter Try.func44, Try.ntmps44
    go_wp2_with (first | (go_at_call 73; refine HC.out.mono ?_; rintro e w1 ⟨rfl, hb⟩) | (go_at_call 62; refine (l00In_any _ _ _ _).mono ?_; rintro e w' ⟨rfl, rfl⟩; first | rw [HK2.out] | rw [HK3.out]))
    have HB := hide hb
    clear hb
    go_wp2
    (try simp only [Exit.inBlock, Exit.then])
    refine bodyPost_ret (results_four rfl _ _ _) rfl ?_
    exact ⟨none, 0, none, 0, rfl, Own.nil _ _, Own.nil _ _, .inl rfl, HB.out⟩
  have HK2 := hide hk2
  cases hk3 : inB ct0 1 256
  · have HK3 := hide hk3
    have h0 : drwOk pss bs sd0 ct0 = false := by simp [drwOk, hk3]
    have h1 : drwW pss bs sd0 ct0 = [] := by simp [drwW, h0]
    have h2 : drwT pss bs sd0 ct0 = [] := by simp [drwT, h0]
    have h3 : drwN pss bs sd0 ct0 = 0 := by simp [drwN, h0]
    rw [h0, h1, h2, h3]
    clear hk hk2 hk3
    clear h0 h1 h2 h3 hR hY he hM hno
    go_enter Try.func44, Try.ntmps44
    go_wp2_with (first | (go_at_call 73; refine HC.out.mono ?_; rintro e w1 ⟨rfl, hb⟩) | (go_at_call 62; refine (l00In_any _ _ _ _).mono ?_; rintro e w' ⟨rfl, rfl⟩; first | rw [HK2.out] | rw [HK3.out]))
    have HB := hide hb
    clear hb
    go_wp2
    (try simp only [Exit.inBlock, Exit.then])
    refine bodyPost_ret (results_four rfl _ _ _) rfl ?_
    exact ⟨none, 0, none, 0, rfl, Own.nil _ _, Own.nil _ _, .inl rfl, HB.out⟩
  have HK3 := hide hk3
  have h0 : drwOk pss bs sd0 ct0 = true := by simp [drwOk, hk, hk2, hk3]
  obtain ⟨_, hgood, hb5, ⟨hs0a, hs0b⟩, hct1, hct2⟩ := drw_parts h0
  obtain ⟨s0, rfl⟩ := Int.eq_ofNat_of_zero_le hs0a
  obtain ⟨C, rfl⟩ := Int.eq_ofNat_of_zero_le (show 0 ≤ ct0 by omega)
  have h1 : drwW pss bs s0 C = (dwT pss bs s0 C).1.1 := by simp [drwW, h0]
  have h2 : drwT pss bs s0 C = (dwT pss bs s0 C).1.2 := by simp [drwT, h0]
  have h3 : drwN pss bs s0 C = ((dwT pss bs s0 C).2 : Nat) := by simp [drwN, h0]
  rw [h0, h1, h2, h3]
  have HSL := hide (drw_len h0)
  rw [Int.toNat_natCast, Int.toNat_natCast, hl] at HSL
  have hs0 : s0 < 4294967296 := by omega
  have HG := hide hgood
  rw [hyl] at hb5
  have hm24 := hgood.1
  rw [hl] at hm24
  have HT0 := hide (dwT_zero pss bs s0)
  rw [hl] at HT0
  have HTF := hide (fun j => (dwT_facts hgood (by rw [hyl]; exact hb5) hs0 j).1)
  obtain ⟨FIN, hFIN⟩ := ex_eq (dwT pss bs s0 C)
  rw [hFIN] at HSL ⊢
  have HFIN := hide hFIN
  have HSEAT := hide (fun (now : List Int) (h : Good pss now) (j : Nat) (hj : j < pss.length) => h.seat j hj)
  have HPOS := hide (fun (now : List Int) (h : Good pss now) (h5 : now.length ≤ 5) => h.pos h5)
  rw [hl] at HSEAT
  have hmk : ∀ W : World, (Instr.makeSlice 22 (.int .i64 (m : Int)) (.int .i64 (m : Int))).run Try.prog W = .ok (.slice (some ⟨W.heap.size, 0, none⟩) m m) (W.alloc (.cells (Array.replicate m (.int .i64 0)) 2)) := by
    intro W
    obtain rfl | rfl | rfl : m = 2 ∨ m = 3 ∨ m = 4 := by omega
    · kernel_rfl
    · kernel_rfl
    · kernel_rfl
  clear h0 h1 h2 h3 hk hk2 hk3 hFIN hgood hs0a hs0b
  go_enter Try.func44, Try.ntmps44
  go_upto_region 3 with (first | (go_at_call 73; refine HC.out.mono ?_; rintro e w1 ⟨rfl, hb⟩) | (go_at_call 62; refine (l00In_any _ _ _ _).mono ?_; rintro e w' ⟨rfl, rfl⟩; first | rw [HK2.out] | rw [HK3.out]))
  go_cut [12] from 29 to 37 (fun s8 wx => ∃ gS gw gt : Nat, s8 = .pointer (some ⟨gS, 0, none⟩) ∧ R3s w1 A m c gS gw gt wx)
  case first =>
    go_big_region
    all_goals
      go_wp2_with fail
      go_meet
      case rel =>
        have d0 := ci0 w1
        have d1 := ci1 w1
        have d2 := ci2 w1
        apply R3s.ex (below := ciB w1 _ _ _)
        case box => first | exact d0 _ _ _ | exact d1 _ _ _ | exact d2 _ _ _
        case winL => first | exact d0 _ _ _ | exact d1 _ _ _ | exact d2 _ _ _
        case tieL => first | exact d0 _ _ _ | exact d1 _ _ _ | exact d2 _ _ _
        case nod => simp <;> omega
        case low => simp <;> omega
  case rest =>
    obtain ⟨gS, gw, gt, rfl, h3⟩ := hcut
    have hz1 := hb.size
    have hds : DS w wc A m c gS gw gt (zer m, zer m) := ⟨h3.nod, ⟨by have := h3.low; omega, by have := h3.low; omega, by have := h3.low; omega⟩, h3.box, own_zerS h3.winL hm24.2, own_zerS h3.tieL hm24.2, hb.trans (h3.below.mono hz1)⟩
    have HDS := hide hds
    clear h3 hds hb
    go_wp2
    go_loopw [2, 3] (fun sd ct wr => ∃ j r : Nat, j + r = C ∧ ct = .int .i64 r ∧ sd = .int .i64 ((dwT pss bs s0 j).2 : Nat) ∧ DS w wr A m c gS gw gt (dwT pss bs s0 j).1) (fun _ ct _ => (intOf ct).toNat)
    case atStart => exact ⟨0, C, Nat.zero_add _, rfl, by rw [HT0.out], by rw [HT0.out]; exact HDS.out⟩
    case round =>
      obtain ⟨j, r, hjr, rfl, rfl, hS⟩ := hrel
      by_cases hr : 0 < r
      · have hst := dwT_succ pss bs s0 j
        have hsd := HTF.out j
        obtain ⟨⟨⟨wS, tS⟩, sd⟩, hTj⟩ := ex_eq (dwT pss bs s0 j)
        rw [hTj] at hS hst hsd ⊢
        obtain ⟨⟨D, s'⟩, hD⟩ := ex_eq (drB pss (5 - n) bs sd)
        rw [dwR_eq (D := D) (s' := s') (by rw [hyl]; exact hD)] at hst
        have HST := hide hst
        have HD := hide hD
        have hdf := drB_facts pss (5 - n) bs sd HG.out (by rw [hyl]; omega) hsd
        rw [hD] at hdf
        have HDG := hide hdf.1
        have hDl : D.length = 5 := hdf.2.1
        have HDL := hide hDl
        have HS := hide hS
        have hsl := hS.below.size
        have HYo := hide ((hY.below hS.below).more hsl)
        have dr : decide ((0 : Int) < (r : Int)) = true := decide_eq_true (by omega)
        have HY5 := hide (show (([] : List Int) ++ bs).length = n by rw [List.nil_append]; exact hyl)
        obtain ⟨wo, rfl⟩ : ∃ wo : World, wo = wr := ⟨_, rfl⟩
        clear hst hTj hD hdf hDl hS
        go_wp2_with (at_builtin; refine wpList_app rfl (.tmp 42) (.tmp 43) rfl wo.heap.size (.slice (some ⟨wo.heap.size, 0, none⟩) 0 0) [] bs rfl (Lst.new wo (Nat.le_refl _)) A2 n c2 rfl ((HYo.out.alloc (Nat.le_refl _) _).more (by simp)) hno (by simp; omega) (by simp) ?_; intro v4 w4 ho4 hg4 _; have hb4 : Below wo.heap.size wo w4 := ((Below.refl _ _).alloc (Nat.le_refl _) _).trans (Lst.grown (Lst.new wo (Nat.le_refl _)) hg4 (by simp)); obtain ⟨A4, c4, rfl, _⟩ := ho4.formn HY5.out)
        have HO4 := hide ho4
        have HB4 := hide hb4
        clear ho4 hb4 hg4
        (try go_wp2)
        go_loopw [2, 13] (fun sd v wr => ∃ (k nl : Nat) (now : List Int) (s : Nat) (A5 : Option Addr) (c5 : Nat), now.length = nl ∧ k + nl = 5 ∧ v = .slice A5 nl c5 ∧ sd = .int .i64 (s : Nat) ∧ Lst wr wo.heap.size (.slice A5 nl c5) now ∧ Below wo.heap.size wo wr ∧ Hid (Good pss now) ∧ s < 4294967296 ∧ Hid (drB pss k now s = (D, s'))) (fun _ v _ => 5 - lenOf v)
        case atStart => exact ⟨5 - n, n, bs, sd, A4, c4, hyl, by omega, rfl, rfl, HO4.out, HB4.out, HG, hsd, HD⟩
        case round =>
          obtain ⟨k, nl, now, s, A5, c5, hnl, hk5, rfl, rfl, hO, hbr, hgd, hs, hdr⟩ := hrel
          clear HO4 HB4 HD
          have hRr := (hR.below (HS.out.kept hbr).below).more (HS.out.kept hbr).below.size
          cases k with
          | zero =>
            obtain rfl : nl = 5 := by omega
            have he1 : now = D ∧ s = s' := by
              have h1 := hdr.out
              rw [drB_zero] at h1
              exact ⟨congrArg Prod.fst h1, congrArg Prod.snd h1⟩
            obtain ⟨rfl, rfl⟩ := he1
            have HOO := hide (show Own wr wo.heap.size A5 5 c5 now by have := hO.formn (n := 5) hnl; obtain ⟨a, b, e, h⟩ := this; cases e; exact h)
            have hk7 := HS.out.kept hbr
            have HM := hide (l03Meet_any gS A m c ts pss A5 c5 now gw gt wS tS wr hk7.box hRr he hm24.1 hm24.2 HOO.out.rd (fun q hq => HSEAT.out now hgd.out q hq) hk7.winL hk7.tieL hk7.nod.2.2 ⟨hk7.nod.1, hk7.nod.2.1⟩)
            have HK7 := hide hk7
            obtain ⟨r', rfl⟩ : ∃ r', r = r' + 1 := ⟨r - 1, by omega⟩
            clear hRr hO hdr hk7
            go_wp2_with (go_at_call 75; refine HM.out.mono ?_; rintro e w7 ⟨rfl, hw7, ht7, h27⟩)
            have HS7 := hide (HK7.out.meet (st' := (meetW pss now wS, meetT pss now tS)) h27 hw7 ht7)
            clear hw7 ht7 h27
            (try go_wp2)
            go_roundw
            case rel => exact ⟨j + 1, r', by omega, by go_num, by rw [HST.out], by rw [HST.out]; exact HS7.out⟩
            case measure => simp [intOf] <;> omega
          | succ k =>
            have hMt : ∀ t ∈ ts, t.n ≤ 1048576 := by
              intro t ht
              have h1 := hM t.xs (by rw [← he]; exact List.mem_map.2 ⟨t, ht, rfl⟩)
              have h2 := (hR.2.1 t ht).1.len
              omega
            have HOO := hide (show Own wr wo.heap.size A5 nl c5 now by have := hO.formn (n := nl) hnl; obtain ⟨a, b, e, h⟩ := this; cases e; exact h)
            have HLF := hide (l03Left_any A m c ts A5 nl c5 now wr hRr hm hMt HOO.out.rd (by omega))
            rw [he] at HLF
            have hUp := HPOS.out now hgd.out (by omega)
            have hdr2 := hdr.out
            rw [drB_succ] at hdr2
            have hgp := fun (x : Int) => Good.push (x := x) hgd.out
            have hUl := unk_len (pss ++ [now])
            obtain ⟨U, hU⟩ := ex_eq (unkL (pss ++ [now]))
            rw [hU] at HLF hUp hdr2 hgp hUl
            obtain ⟨nU, hnU⟩ := ex_eq U.length
            rw [hnU] at HLF hUp hdr2 hUl
            have htl := nextS_lt s
            have HR1 := hide (nextS_int s)
            obtain ⟨t, ht⟩ := ex_eq (nextS s)
            rw [ht] at HR1 hdr2 htl
            have HR2 := hide (pickN_int t nU htl (by omega))
            have hpl := pickN_lt htl hUp
            obtain ⟨i, hi⟩ := ex_eq (pickN t nU)
            rw [hi] at HR2 hpl hdr2
            have hgp2 := hgp _ (getD_mem_lt (by rw [hnU]; exact hpl))
            have HUL := hide hnU
            have HDR2 := hide hdr2
            have HGP := hide hgp2
            have HO := hide hO
            have dl : decide ((nl : Int) < 5) = true := decide_eq_true (by omega)
            have hbz := hbr.size
            clear hRr hMt hdr2 hgp hgp2 hU hnU ht hi hO hgd hdr
            go_upto_region 9 with (go_at_call 74; refine HLF.out.mono ?_; rintro e w6 ⟨AL, cL, rfl, hoL, hb6⟩)
            obtain ⟨gl, rfl, hgl1, hgl2⟩ := hoL.form hUp
            have hc := World.ownsRow.cellAt (h := hoL) i (by omega)
            rw [ivs_at _ _ (by rw [HUL.out]; exact hpl)] at hc
            obtain ⟨x, hx⟩ := ex_eq (U.getD i 0)
            rw [hx] at hc HDR2 HGP
            have HO6 := hide (HO.out.below hb6)
            have HB6 := hide (hbr.trans (hb6.mono hbz))
            have hz6 := hb6.size
            have HNL1 := hide (show (now ++ [x]).length = nl + 1 by rw [List.length_append, hnl]; rfl)
            clear hoL hb6 hx HO
            go_upto_region 10 with fail
            rw [HR1.out]
            obtain ⟨PR, hPR⟩ := ex_eq (wrap64 ((t : Int) * (nU : Int)))
            have r1 : ∀ w, (binOp .mul 2 (.int .i64 (t : Int)) (.int .i64 (nU : Int))).run Try.prog w = .ok (.int .i64 PR) w := fun w => by rw [← hPR]; exact run_mul64 _ _ w
            have r2 : ∀ w, (binOp .quo 2 (.int .i64 PR) (.int .i64 4294967296)).run Try.prog w = .ok (.int .i64 (i : Int)) w := fun w => by rw [← HR2.out, ← hPR]; exact run_quo64 _ w
            clear hPR
            go_wp2_with (first | (refine wpList_bin rfl .mul 2 2 (.tmp 57) (.tmp 59) rfl _ _ (.int .i64 PR) rfl rfl (fun _ => rfl) r1 ?_) | (refine wpList_bin rfl .quo 2 2 (.tmp 60) (.const (.int .i64 4294967296)) rfl _ _ (.int .i64 (i : Int)) rfl rfl (fun _ => rfl) r2 ?_) | (at_builtin; refine wpList_app rfl (.tmp 55) (.tmp 64) rfl wo.heap.size _ now [x] rfl (HO6.out.alloc _) (some ⟨w6.heap.size, 0, none⟩) 1 1 rfl (rd_one w6 x 2) (fun h => by cases h) (by omega) (by simp; omega) ?_; intro v8 w8 ho8 hg8 _; have hb8 : Below wo.heap.size wo w8 := (HB6.out.alloc HB6.out.size _).trans (Lst.grown (HO6.out.alloc _) hg8 (by have := HB6.out.size; simp; omega)); obtain ⟨A8, c8, rfl, _⟩ := ho8.formn HNL1.out))
            have HO8 := hide ho8
            have HB8 := hide hb8
            clear ho8 hb8 hg8 r1 r2
            (try go_wp2)
            go_roundw
            case rel => exact ⟨k, nl + 1, now ++ [x], t, A8, c8, HNL1.out, by omega, rfl, rfl, HO8.out, HB8.out, HGP, htl, HDR2⟩
            case measure => simp [lenOf] <;> omega
      · obtain rfl : r = 0 := by omega
        obtain rfl : j = C := by omega
        rw [HFIN.out] at hS ⊢
        have hs1 : FIN.1.1.length = m := HSL.out.1
        have hs2 : FIN.1.2.length = m := HSL.out.2
        have hc0 := hS.box.cell 0
        have hc1 := hS.box.cell 1
        have hc2 := hS.box.cell 2
        have HWL := hide hS.winL
        have HTI := hide hS.tieL
        have HLW := hide hS.below
        have hno2 := hS.nod
        have hlo := hS.low
        have hzz := hS.box.lt
        clear hS
        go_upto_region 12 with fail
        go_quiet (fail)
        go_wp2
        (try simp only [Exit.inBlock, Exit.then])
        refine bodyPost_ret (results_four rfl _ _ _) rfl ?_
        rw [hs1, hs2]
        exact ⟨_, _, _, _, rfl, own_up (HWL.out.drewN _) hlo.2.1, own_up (HTI.out.drewN _) hlo.2.2, .inr (by simp [Value.ownBlock]; omega), bdrewN HLW.out _⟩

end Go.Proofs.Ytlldocdmjeeaaaa.hand
