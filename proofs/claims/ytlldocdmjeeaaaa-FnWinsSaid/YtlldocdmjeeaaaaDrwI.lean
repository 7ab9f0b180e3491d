/-
  Boards that are drawn and met, in the implementation. Conditions: those of each theorem.
-/
import Derived.Test.YtlldocdmjeeaaaaDrwS
import Derived.Test.YtlldocdmjeeaaaaDelH
import Derived.Test.YtlldocdmjeeaaaaOuts
import Derived.Test.YtlldocdmjeeaaaaAppS
namespace Go.Proofs.Ytlldocdmjeeaaaa.hand
open Go.RowKit
open base mem grid

theorem nextSeed_any (s : Nat) (w : World) (hs : s < 4294967296) : Calls Try.prog 81 #[.int .i64 s] w fun e w' => e = .returned (.int .i64 (nextS s)) ∧ w = w' := by
  go_enter Try.func81, Try.ntmps81
  go_wp2
  go_ret
  exact ⟨by unfold nextS; congr 1, rfl⟩

theorem isSeed_any (n : Int) (w : World) : Calls Try.prog 80 #[.int .i64 n] w fun e w' => e = .returned (.bool (inB n 0 4294967295)) ∧ w = w' := by
  go_enter Try.func80, Try.ntmps80
  go_wp2_with (go_at_call 70; refine (within_any _ _ _ _).mono ?_; rintro e w' ⟨rfl, rfl⟩)
  go_ret
  exact ⟨rfl, rfl⟩

section
variable (w : World) (o0 o1 : Obj)
theorem cj0 : ((w.alloc o0).alloc o1).drew.heap[w.heap.size + 0]? = some o0 := by
  have h := heap_alloc_new w o0
  exact (Below.heap_alloc (w.alloc o0) o1 _ (by simp <;> omega)).trans h
theorem cj1 : ((w.alloc o0).alloc o1).drew.heap[w.heap.size + 1]? = some o1 := by
  have e : (w.alloc o0).heap.size = w.heap.size + 1 := by simp
  have h := heap_alloc_new (w.alloc o0) o1
  rw [e] at h
  exact h
theorem cjB : Below w.heap.size w ((w.alloc o0).alloc o1).drew := below_drewN (((Below.refl _ _).alloc (Nat.le_refl _) o0).alloc (by simp <;> omega) o1) 1
end
/-- two rows of counts -/
structure R2i (w1 : World) (m gw gt : Nat) (w : World) : Prop where
  nod : gw ≠ gt
  low : w1.heap.size ≤ gw ∧ w1.heap.size ≤ gt
  winL : Blk w gw 2 (Array.replicate m (.int .i64 0))
  tieL : Blk w gt 2 (Array.replicate m (.int .i64 0))
  below : Below w1.heap.size w1 w
theorem R2i.ex {w1 : World} {m gw gt : Nat} {w : World} (winL : Blk w gw 2 (Array.replicate m (.int .i64 0))) (tieL : Blk w gt 2 (Array.replicate m (.int .i64 0))) (nod : gw ≠ gt) (low : w1.heap.size ≤ gw ∧ w1.heap.size ≤ gt) (below : Below w1.heap.size w1 w) :
    ∃ aw at_ : Nat, Value.slice (some ⟨gw, 0, none⟩) m m = .slice (some ⟨aw, 0, none⟩) m m ∧ Value.slice (some ⟨gt, 0, none⟩) m m = .slice (some ⟨at_, 0, none⟩) m m ∧ R2i w1 m aw at_ w := ⟨gw, gt, rfl, rfl, nod, low, winL, tieL, below⟩
structure DI (w0 w : World) (m gw gt : Nat) (st : List Int × List Int) : Prop where
  nod : gw ≠ gt
  low : w0.heap.size ≤ gw ∧ w0.heap.size ≤ gt
  winL : Own w 0 (some ⟨gw, 0, none⟩) m m st.1
  tieL : Own w 0 (some ⟨gt, 0, none⟩) m m st.2
  below : Below w0.heap.size w0 w
section
variable {w0 w w' : World} {m gw gt : Nat} {st st' : List Int × List Int}
theorem DI.kept (h : DI w0 w m gw gt st) (hb : Below w.heap.size w w') : DI w0 w' m gw gt st :=
  ⟨h.nod, h.low, h.winL.below hb (Nat.le_refl _), h.tieL.below hb (Nat.le_refl _), h.below.trans (hb.mono h.below.size)⟩
theorem DI.meet (h : DI w0 w m gw gt st) (ht : Two w w' gw gt) (hw : Own w' 0 (some ⟨gw, 0, none⟩) m m st'.1) (htl : Own w' 0 (some ⟨gt, 0, none⟩) m m st'.2) : DI w0 w' m gw gt st' :=
  ⟨h.nod, h.low, hw, htl, h.below.trans (ht.below h.low.1 h.low.2 h.below.size)⟩
end
theorem own_capM {w : World} {B : Nat} {A : Option Addr} {n c : Nat} {xs : List Int} (h : Own w B A n c xs) : n ≤ c ∧ c ≤ 9223372036854775807 := by
  rcases h.2 with ⟨h0, h1⟩ | ⟨g', cap, cur, hv, _, _, hnc, hcm, _⟩
  · injection h0 with _ e2 e3
    omega
  · injection hv with _ _ e3
    unfold maxLen at hcm
    omega
/-- what lies while a board is drawn: the cards that are left, and the board -/
structure Dr (wo w : World) (gl nL cL : Nat) (U : List Int) (v : Value) (now : List Int) : Prop where
  left : Own w wo.heap.size (some ⟨gl, 0, none⟩) nL cL U
  board : Lst w wo.heap.size v now
  apart : v.ownBlock ≠ some gl
  below : Below wo.heap.size wo w

set_option maxRecDepth 100000 in
set_option maxHeartbeats 8000000 in
theorem impl_DrawnWins (A : Option Addr) (m c : Nat) (ts : List Sl) (pss : List (List Int)) (A2 : Option Addr) (n c2 : Nat) (bs : List Int) (sd0 ct0 : Int) (w : World) (hR : RdS w w.heap.size A m ts) (he : con ts = pss) (hm : m ≤ 1048576) (hM : ∀ p ∈ pss, p.length ≤ 1048576)
    (hY : Rd w w.heap.size A2 n bs) (hn : n ≤ 1048576) (hnc : n ≤ c2) (hno : A2 = none → c2 = 0) :
    Calls Try.prog 45 #[.slice A m c, .slice A2 n c2, .int .i64 sd0, .int .i64 ct0] w fun e w' => ∃ A' C' A3 C3, e = .returned (.tuple #[.slice A' (drwW pss bs sd0 ct0).length C', .slice A3 (drwT pss bs sd0 ct0).length C3, .int .i64 (drwN pss bs sd0 ct0), .bool (drwOk pss bs sd0 ct0)]) ∧
      Own w' w.heap.size A' (drwW pss bs sd0 ct0).length C' (drwW pss bs sd0 ct0) ∧ Own w' w.heap.size A3 (drwT pss bs sd0 ct0).length C3 (drwT pss bs sd0 ct0) ∧ Sep (.slice A' (drwW pss bs sd0 ct0).length C') (.slice A3 (drwT pss bs sd0 ct0).length C3) ∧ Below w.heap.size w w' := by
  have hl : pss.length = m := by rw [← he, con_len, hR.len]
  have hyl := hY.len
  have hcan := impl_can A m c ts pss A2 n c2 bs 0 w hR he hm hM hY hn (fun _ => hno) (by omega)
  cases hk : canB pss bs 0
  · rw [hk] at hcan
    have HC := hide hcan
    have h0 : drwOk pss bs sd0 ct0 = false := by simp [drwOk, hk]
    have h1 : drwW pss bs sd0 ct0 = [] := by simp [drwW, h0]
    have h2 : drwT pss bs sd0 ct0 = [] := by simp [drwT, h0]
    have h3 : drwN pss bs sd0 ct0 = 0 := by simp [drwN, h0]
    rw [h0, h1, h2, h3]
    clear hcan hk
    clear h0 h1 h2 h3 hR hY he hM hno
    go_enter Try.func45, Try.ntmps45
    go_wp2_with (first | (go_at_call 76; refine HC.out.mono ?_; rintro e w1 ⟨rfl, hb⟩) | (go_at_call 70; refine (within_any _ _ _ _).mono ?_; rintro e w' ⟨rfl, rfl⟩; rw [HK3.out]) | (go_at_call 80; refine (isSeed_any _ _).mono ?_; rintro e w' ⟨rfl, rfl⟩; rw [HK2.out]))
    have HB := hide hb
    clear hb
    go_wp2
    (try simp only [Exit.inBlock, Exit.then])
    refine bodyPost_ret (results_four rfl _ _ _) rfl ?_
    exact ⟨none, 0, none, 0, rfl, Own.nil _ _, Own.nil _ _, .inl rfl, HB.out⟩
  rw [hk] at hcan
  have HC := hide hcan
  clear hcan
  cases hk2 : inB sd0 0 4294967295
  · have HK2 := hide hk2
    have h0 : drwOk pss bs sd0 ct0 = false := by simp [drwOk, hk2]
    have h1 : drwW pss bs sd0 ct0 = [] := by simp [drwW, h0]
    have h2 : drwT pss bs sd0 ct0 = [] := by simp [drwT, h0]
    have h3 : drwN pss bs sd0 ct0 = 0 := by simp [drwN, h0]
    rw [h0, h1, h2, h3]
    clear hk hk2
    clear h0 h1 h2 h3 hR hY he hM hno
    go_enter Try.func45, Try.ntmps45
    go_wp2_with (first | (go_at_call 76; refine HC.out.mono ?_; rintro e w1 ⟨rfl, hb⟩) | (go_at_call 70; refine (within_any _ _ _ _).mono ?_; rintro e w' ⟨rfl, rfl⟩; rw [HK3.out]) | (go_at_call 80; refine (isSeed_any _ _).mono ?_; rintro e w' ⟨rfl, rfl⟩; rw [HK2.out]))
    have HB := hide hb
    clear hb
    go_wp2
    (try simp only [Exit.inBlock, Exit.then])
    refine bodyPost_ret (results_four rfl _ _ _) rfl ?_
    exact ⟨none, 0, none, 0, rfl, Own.nil _ _, Own.nil _ _, .inl rfl, HB.out⟩
  have HK2 := hide hk2
  cases hk3 : inB ct0 1 256
  · have HK3 := hide hk3
    have h0 : drwOk pss bs sd0 ct0 = false := by simp [drwOk, hk3]
    have h1 : drwW pss bs sd0 ct0 = [] := by simp [drwW, h0]
    have h2 : drwT pss bs sd0 ct0 = [] := by simp [drwT, h0]
    have h3 : drwN pss bs sd0 ct0 = 0 := by simp [drwN, h0]
    rw [h0, h1, h2, h3]
    clear hk hk2 hk3
    clear h0 h1 h2 h3 hR hY he hM hno
    go_enter Try.func45, Try.ntmps45
    go_wp2_with (first | (go_at_call 76; refine HC.out.mono ?_; rintro e w1 ⟨rfl, hb⟩) | (go_at_call 70; refine (within_any _ _ _ _).mono ?_; rintro e w' ⟨rfl, rfl⟩; rw [HK3.out]) | (go_at_call 80; refine (isSeed_any _ _).mono ?_; rintro e w' ⟨rfl, rfl⟩; rw [HK2.out]))
    have HB := hide hb
    clear hb
    go_wp2
    (try simp only [Exit.inBlock, Exit.then])
    refine bodyPost_ret (results_four rfl _ _ _) rfl ?_
    exact ⟨none, 0, none, 0, rfl, Own.nil _ _, Own.nil _ _, .inl rfl, HB.out⟩
  have HK3 := hide hk3
  have h0 : drwOk pss bs sd0 ct0 = true := by simp [drwOk, hk, hk2, hk3]
  obtain ⟨_, hgood, hb5, ⟨hs0a, hs0b⟩, hct1, hct2⟩ := drw_parts h0
  obtain ⟨s0, rfl⟩ := Int.eq_ofNat_of_zero_le hs0a
  obtain ⟨C, rfl⟩ := Int.eq_ofNat_of_zero_le (show 0 ≤ ct0 by omega)
  have h1 : drwW pss bs s0 C = (dwT pss bs s0 C).1.1 := by simp [drwW, h0]
  have h2 : drwT pss bs s0 C = (dwT pss bs s0 C).1.2 := by simp [drwT, h0]
  have h3 : drwN pss bs s0 C = ((dwT pss bs s0 C).2 : Nat) := by simp [drwN, h0]
  rw [h0, h1, h2, h3]
  have HSL := hide (drw_len h0)
  rw [Int.toNat_natCast, Int.toNat_natCast, hl] at HSL
  have hs0 : s0 < 4294967296 := by omega
  have HG := hide hgood
  rw [hyl] at hb5
  have hm24 := hgood.1
  rw [hl] at hm24
  have HT0 := hide (dwT_zero pss bs s0)
  rw [hl] at HT0
  have HTF := hide (fun j => (dwT_facts hgood (by rw [hyl]; exact hb5) hs0 j).1)
  obtain ⟨FIN, hFIN⟩ := ex_eq (dwT pss bs s0 C)
  rw [hFIN] at HSL ⊢
  have HFIN := hide hFIN
  have HSEAT := hide (fun (now : List Int) (h : Good pss now) (j : Nat) (hj : j < pss.length) => h.seat j hj)
  have HPOS := hide (fun (now : List Int) (h : Good pss now) (h5 : now.length ≤ 5) => h.pos h5)
  rw [hl] at HSEAT
  have hmk : ∀ W : World, (Instr.makeSlice 22 (.int .i64 (m : Int)) (.int .i64 (m : Int))).run Try.prog W = .ok (.slice (some ⟨W.heap.size, 0, none⟩) m m) (W.alloc (.cells (Array.replicate m (.int .i64 0)) 2)) := by
    intro W
    obtain rfl | rfl | rfl : m = 2 ∨ m = 3 ∨ m = 4 := by omega
    · kernel_rfl
    · kernel_rfl
    · kernel_rfl
  clear h0 h1 h2 h3 hk hk2 hk3 hFIN hgood hs0a hs0b
  go_enter Try.func45, Try.ntmps45
  go_upto_region 3 with (first | (go_at_call 76; refine HC.out.mono ?_; rintro e w1 ⟨rfl, hb⟩) | (go_at_call 70; refine (within_any _ _ _ _).mono ?_; rintro e w' ⟨rfl, rfl⟩; rw [HK3.out]) | (go_at_call 80; refine (isSeed_any _ _).mono ?_; rintro e w' ⟨rfl, rfl⟩; rw [HK2.out]))
  go_cut [12, 13] from 31 to 36 (fun s12 s13 wx => ∃ gw gt : Nat, s12 = .slice (some ⟨gw, 0, none⟩) m m ∧ s13 = .slice (some ⟨gt, 0, none⟩) m m ∧ R2i w1 m gw gt wx)
  case first =>
    go_big_region
    all_goals
      go_wp2_with fail
      go_meet
      case rel =>
        have d0 := cj0 w1
        have d1 := cj1 w1
        apply R2i.ex (below := cjB w1 _ _)
        case winL => first | exact d0 _ _ | exact d1 _ _
        case tieL => first | exact d0 _ _ | exact d1 _ _
        case nod => simp <;> omega
        case low => simp <;> omega
  case rest =>
    obtain ⟨gw, gt, rfl, rfl, h3⟩ := hcut
    have hz1 := hb.size
    have hds : DI w wc m gw gt (zer m, zer m) := ⟨h3.nod, ⟨by have := h3.low; omega, by have := h3.low; omega⟩, own_zerS h3.winL hm24.2, own_zerS h3.tieL hm24.2, hb.trans (h3.below.mono hz1)⟩
    have HDS := hide hds
    have hMM : ∀ t ∈ ts ++ [⟨A2, n, c2, bs⟩], t.n ≤ 1048576 := by
      intro t ht
      rcases List.mem_append.1 ht with ht | ht
      · have h1 := hM t.xs (by rw [← he]; exact List.mem_map.2 ⟨t, ht, rfl⟩)
        have h2 := (hR.2.1 t ht).1.len
        omega
      · simp at ht
        subst ht
        exact hn
    have hconE : con (ts ++ [⟨A2, n, c2, bs⟩]) = pss ++ [bs] := by rw [con_app, he]; rfl
    have HUN := hide (fun A4 c4 W (hr : RdS W W.heap.size A4 (m + 1) (ts ++ [⟨A2, n, c2, bs⟩])) => unknown_any A4 (m + 1) c4 _ W hr (by omega) hMM)
    rw [hconE] at HUN
    have HTL := hide (show ts.length = m by rw [← hl, ← he, con_len])
    clear h3 hds hb hMM hconE
    go_wp2
    go_loopw [2, 38] (fun sd ct wr => ∃ j : Nat, j ≤ C ∧ ct = .int .i64 j ∧ sd = .int .i64 ((dwT pss bs s0 j).2 : Nat) ∧ DI w wr m gw gt (dwT pss bs s0 j).1) (fun _ ct _ => C - (intOf ct).toNat)
    case atStart => exact ⟨0, Nat.zero_le _, rfl, by rw [HT0.out], by rw [HT0.out]; exact HDS.out⟩
    case round =>
      obtain ⟨j, hjr, rfl, rfl, hS⟩ := hrel
      by_cases hr : j < C
      · have hst := dwT_succ pss bs s0 j
        have hsd := HTF.out j
        obtain ⟨⟨⟨wS, tS⟩, sd⟩, hTj⟩ := ex_eq (dwT pss bs s0 j)
        rw [hTj] at hS hst hsd ⊢
        obtain ⟨⟨D, s'⟩, hD⟩ := ex_eq (drB pss (5 - n) bs sd)
        rw [dwR_eq (D := D) (s' := s') (by rw [hyl]; exact hD)] at hst
        have HST := hide hst
        have HD := hide hD
        have hdf := drB_facts pss (5 - n) bs sd HG.out (by rw [hyl]; omega) hsd
        rw [hD] at hdf
        have HDG := hide hdf.1
        have HS := hide hS
        have hsl := hS.below.size
        have hRo := (hR.below hS.below).more hsl
        have hYo := (hY.below hS.below).more hsl
        obtain ⟨wo, rfl⟩ : ∃ wo : World, wo = wr := ⟨_, rfl⟩
        have hok2 : ∀ W : World, Below wo.heap.size wo W → ∀ t ∈ ts ++ [⟨A2, n, c2, bs⟩], Sl.ok W W.heap.size t := by
          intro W hW t ht
          rcases List.mem_append.1 ht with ht | ht
          · exact ((hRo.2.1 t ht).below hW).more hW.size
          · simp at ht
            subst ht
            exact ⟨(hYo.below hW).more hW.size, hnc, fun e => hno e⟩
        have HOK := hide hok2
        have HCL := hide (CloneS_any A m c ts wo hRo hm (by omega))
        have hUp := HPOS.out bs HG.out (by omega)
        have hUl := unk_len (pss ++ [bs])
        have HUN2 := HUN
        obtain ⟨U0, hU0⟩ := ex_eq (unkL (pss ++ [bs]))
        rw [hU0] at HUN2 hUp hUl
        obtain ⟨nU0, hnU0⟩ := ex_eq U0.length
        rw [hnU0] at HUN2 hUp hUl
        have HU0 := hide hU0
        have HNU := hide hnU0
        clear hst hTj hD hdf hS hok2 hRo hYo hU0 hnU0
        go_upto_region 7 with (first | (go_at_call 77; refine HCL.out.mono ?_; rintro e w2 ⟨Ac, cc, rfl, hoc, hbc⟩) | (at_builtin; refine wpList_appS rfl (.tmp 41) (.tmp 43) rfl wo.heap.size _ ts [⟨A2, n, c2, bs⟩] rfl (show LstS (w2.alloc (.cells #[.slice A2 n c2] 22)) wo.heap.size (.slice Ac m cc) ts by unfold LstS; rw [HTL.out]; exact World.ownsRow.alloc hoc _) (some ⟨w2.heap.size, 0, none⟩) 1 1 rfl (rdS_one w2 A2 n c2 bs (HOK.out w2 hbc ⟨A2, n, c2, bs⟩ (by simp)).1 hnc (HOK.out w2 hbc ⟨A2, n, c2, bs⟩ (by simp)).2.2) (fun h => by cases h) (by rw [HTL.out]; omega) (by simp; have := hbc.size; omega) ?_; intro v3 w3 ho3 hg3 hbk3; have hzz := hbc.size; have hb3 : Below wo.heap.size wo w3 := (hbc.alloc hbc.size (.cells #[.slice A2 n c2] 22)).grown hg3 (by simp; omega) (fun k hk => (LstS.blk (show LstS (w2.alloc (.cells #[.slice A2 n c2] 22)) wo.heap.size (.slice Ac m cc) ts by unfold LstS; rw [HTL.out]; exact World.ownsRow.alloc hoc _) k hk).1); obtain ⟨A4, c4, rfl, ho4⟩ := ho3.form (n := m + 1) (by simp [HTL.out]); have HU := hide (HUN2.out A4 c4 w3 (LstS.rd ho4 (HOK.out w3 hb3)))) | (go_at_call 65; refine HU.out.mono ?_; rintro e w4 ⟨AL, cL, rfl, hoL, hbL⟩))
        obtain ⟨gl, rfl, hgl1, hgl2⟩ := hoL.form hUp
        have hz3 := hb3.size
        have hb4 : Below wo.heap.size wo w4 := hb3.trans (hbL.mono hz3)
        have HOL := hide (hoL.mono hz3)
        have HB4 := hide hb4
        have HCB := hide (Clone_any A2 n c2 bs w4 (HOK.out _ hb4 ⟨A2, n, c2, bs⟩ (by simp)).1 hn (fun e => ⟨rd_none hY e, hno e⟩))
        have hz4 := hb4.size
        clear hoL hbL hb4 ho4 hg3 hbk3 hoc hbc hb3
        go_wp2_with (go_at_call 66; refine HCB.out.mono ?_; rintro e w5 ⟨A5, c5, rfl, ho5, hb5⟩)
        have hDr : Dr wo w5 gl nU0 cL U0 (.slice A5 n c5) bs := ⟨HOL.out.below hb5 (Nat.le_refl _), Lst.of (ho5.mono hz4), fun e => by have := ho5.ownBlock _ e; omega, HB4.out.trans (hb5.mono hz4)⟩
        have HDr := hide hDr
        clear hDr ho5 hb5
        go_loopw [2, 14, 15] (fun sd lv v wr => ∃ (k nl : Nat) (now : List Int) (s : Nat) (A5 : Option Addr) (c5 : Nat) (U : List Int) (nU : Nat), now.length = nl ∧ k + nl = 5 ∧ v = .slice A5 nl c5 ∧ sd = .int .i64 (s : Nat) ∧ U.length = nU ∧ lv = .slice (some ⟨gl, 0, none⟩) nU cL ∧ Dr wo wr gl nU cL U (.slice A5 nl c5) now ∧ Hid (unkL (pss ++ [now]) = U) ∧ Hid (Good pss now) ∧ s < 4294967296 ∧ Hid (drB pss k now s = (D, s'))) (fun _ _ v _ => 5 - lenOf v)
        case atStart => exact ⟨5 - n, n, bs, sd, _, _, U0, nU0, hyl, by omega, rfl, rfl, HNU.out, rfl, HDr.out, HU0, HG, hsd, HD⟩
        case round =>
          obtain ⟨k, nl, now, s, A5, c5, U, nU, hnl, hk5, rfl, rfl, hUl, rfl, hDr, hUe, hgd, hs, hdr⟩ := hrel
          clear HDr HD
          have hRr := (hR.below (HS.out.kept hDr.below).below).more (HS.out.kept hDr.below).below.size
          cases k with
          | zero =>
            obtain rfl : nl = 5 := by omega
            have he1 : now = D ∧ s = s' := by
              have h1 := hdr.out
              rw [drB_zero] at h1
              exact ⟨congrArg Prod.fst h1, congrArg Prod.snd h1⟩
            obtain ⟨rfl, rfl⟩ := he1
            have HOO := hide (show Own wr wo.heap.size A5 5 c5 now by have := hDr.board.formn (n := 5) hnl; obtain ⟨a, b, e, h⟩ := this; cases e; exact h)
            have hk7 := HS.out.kept hDr.below
            have HM := hide (judge_any A m c ts pss A5 c5 now gw gt wS tS wr hRr he hm24.1 hm24.2 HOO.out.rd (own_capM HOO.out).1 (fun q hq => HSEAT.out now hgd.out q hq) hk7.winL hk7.tieL hk7.nod)
            have HK7 := hide hk7
            clear hRr hdr hk7 hDr hUe
            go_wp2_with (go_at_call 79; refine HM.out.mono ?_; rintro e w7 ⟨rfl, hw7, ht7, h27⟩)
            have HS7 := hide (HK7.out.meet (st' := (meetW pss now wS, meetT pss now tS)) h27 hw7 ht7)
            clear hw7 ht7 h27
            (try go_wp2)
            go_roundw
            case rel => exact ⟨j + 1, by omega, by go_num, by rw [HST.out], by rw [HST.out]; exact HS7.out⟩
            case measure => simp [intOf] <;> omega
          | succ k =>
            have hUp := HPOS.out now hgd.out (by omega)
            have hdr2 := hdr.out
            rw [drB_succ] at hdr2
            have hgp := fun (x : Int) => Good.push (x := x) hgd.out
            have hul := unk_less (pss := pss) (now := now) (i := pickN (nextS s) nU)
            rw [hUe.out] at hUp hdr2 hgp hul
            rw [hUl] at hUp hdr2 hul
            have hU52 := unk_len (pss ++ [now])
            rw [hUe.out, hUl] at hU52
            have HNS := hide (fun W => nextSeed_any s W hs)
            have htl := nextS_lt s
            obtain ⟨t, ht⟩ := ex_eq (nextS s)
            rw [ht] at HNS hdr2 htl hul
            have HR2 := hide (pickN_int t nU htl (by omega))
            have hpl := pickN_lt htl hUp
            obtain ⟨i, hi⟩ := ex_eq (pickN t nU)
            rw [hi] at HR2 hpl hdr2 hul
            have hgp2 := hgp _ (getD_mem_lt (by rw [hUl]; exact hpl))
            have hul2 := hul hpl
            have hc := World.ownsRow.cellAt (h := hDr.left) i (by omega)
            rw [ivs_at _ _ (by rw [hUl]; exact hpl)] at hc
            have hdel := fun W (h : Own W wo.heap.size (some ⟨gl, 0, none⟩) nU cL U) => Delete_one (some ⟨gl, 0, none⟩) nU cL i U wo.heap.size W h hpl (own_capM h).2
            rw [show ((i + 1 : Nat) : Int) = (i : Int) + 1 from rfl] at hdel
            have HDE := hide hdel
            have hUn : (U.take i ++ U.drop (i + 1)).length = nU - 1 := by simp; omega
            obtain ⟨x, hx⟩ := ex_eq (U.getD i 0)
            rw [hx] at hc hdr2 hgp2 hul2
            have HUL2 := hide hul2
            have HDR2 := hide hdr2
            have HGP := hide hgp2
            have hgls := (hDr.left.ownBlock _ rfl).2
            have HNL1 := hide (show (now ++ [x]).length = nl + 1 by rw [List.length_append, hnl]; rfl)
            have HDr := hide hDr
            have hbz := hDr.below.size
            have HUN1 := hide hUn
            have dl : decide ((nl : Int) < 5) = true := decide_eq_true (by omega)
            obtain ⟨PR, hPR⟩ := ex_eq (wrap64 ((t : Int) * (nU : Int)))
            have r1 : ∀ w, (binOp .mul 2 (.int .i64 (t : Int)) (.int .i64 (nU : Int))).run Try.prog w = .ok (.int .i64 PR) w := fun w => by rw [← hPR]; exact run_mul64 _ _ w
            have r2 : ∀ w, (binOp .quo 2 (.int .i64 PR) (.int .i64 4294967296)).run Try.prog w = .ok (.int .i64 (i : Int)) w := fun w => by rw [← HR2.out, ← hPR]; exact run_quo64 _ w
            clear hRr hdr2 hgp hgp2 hul hul2 ht hi hx hgd hdr hdel hUn hPR hDr hUe
            go_upto_region 11 with (first | (go_at_call 81; refine (HNS.out _).mono ?_; rintro e w' ⟨rfl, rfl⟩) | (refine wpList_bin rfl .mul 2 2 (.tmp 53) (.tmp 55) rfl _ _ (.int .i64 PR) rfl rfl (fun _ => rfl) r1 ?_) | (refine wpList_bin rfl .quo 2 2 (.tmp 56) (.const (.int .i64 4294967296)) rfl _ _ (.int .i64 (i : Int)) rfl rfl (fun _ => rfl) r2 ?_))
            clear r1 r2
            have hi1 : IntKind.i64.wrap ((i : Int) + 1) = (i : Int) + 1 := (IntWalk.i64_left _).trans (IntWalk.wrap64_in _ ⟨by omega, by omega⟩)
            clear hi1
            go_upto_region 12 with (at_builtin; refine wpList_app rfl (.tmp 58) (.tmp 63) rfl wo.heap.size _ now [x] rfl (HDr.out.board.alloc _) (some ⟨wr.heap.size, 0, none⟩) 1 1 rfl (rd_one wr x 2) (fun h => by cases h) (by omega) (by simp; omega) ?_; intro v8 w8 ho8 hg8 hbk8; have hb8 : Below wo.heap.size wo w8 := (HDr.out.below.alloc hbz _).trans (Lst.grown (HDr.out.board.alloc _) hg8 (by simp; omega)); have hl8 : Own w8 wo.heap.size (some ⟨gl, 0, none⟩) nU cL U := World.ownsRow.kept (World.ownsRow.alloc HDr.out.left _) hg8 (.inr (fun e => HDr.out.apart e.symm)); obtain ⟨A8, c8, rfl, _⟩ := ho8.formn HNL1.out)
            have hap8 : (Value.slice A8 (nl + 1) c8).ownBlock ≠ some gl := by
              rcases hbk8 with e | e
              · rw [e]; exact HDr.out.apart
              · rw [e]
                intro e2
                have := Option.some.inj e2
                simp at this
                omega
            have HO8 := hide ho8
            have HB8 := hide hb8
            have HDL := hide (HDE.out w8 hl8)
            have HAP8 := hide hap8
            clear ho8 hb8 hg8 hl8 hap8 hbk8
            go_wp2_with (go_at_call 82; refine HDL.out.mono ?_; rintro e w9 ⟨rfl, ho9, hg9⟩)
            have hDr9 : Dr wo w9 gl (nU - 1) cL (U.take i ++ U.drop (i + 1)) (.slice A8 (nl + 1) c8) (now ++ [x]) :=
              ⟨ho9, HO8.out.kept hg9 (.inr HAP8.out), HAP8.out, HB8.out.trans (grown_below hg9 HB8.out.size (fun q hq => by
                have h1 := (HDr.out.left.ownBlock gl rfl).1
                have h2 : gl = q := Option.some.inj hq
                omega))⟩
            have HDr9 := hide hDr9
            clear ho9 hg9 hDr9
            (try go_wp2)
            go_roundw
            case rel => exact ⟨k, nl + 1, now ++ [x], t, A8, c8, _, nU - 1, HNL1.out, by omega, rfl, rfl, HUN1.out, rfl, HDr9.out, HUL2, HGP, htl, HDR2⟩
            case measure => simp [lenOf] <;> omega
      · obtain rfl : j = C := by omega
        rw [HFIN.out] at hS ⊢
        have hs1 : FIN.1.1.length = m := HSL.out.1
        have hs2 : FIN.1.2.length = m := HSL.out.2
        have HWL := hide hS.winL
        have HTI := hide hS.tieL
        have HLW := hide hS.below
        have hno2 := hS.nod
        have hlo := hS.low
        clear hS
        go_wp2
        (try simp only [Exit.inBlock, Exit.then])
        refine bodyPost_ret (results_four rfl _ _ _) rfl ?_
        rw [hs1, hs2]
        exact ⟨_, _, _, _, rfl, own_up HWL.out hlo.1, own_up HTI.out hlo.2, .inr (by simp [Value.ownBlock]; omega), HLW.out⟩

end Go.Proofs.Ytlldocdmjeeaaaa.hand
