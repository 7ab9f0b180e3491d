/-
  How often each hand wins, in the reference. Conditions: those of each theorem.
-/
import Derived.Test.YtlldocdmjeeaaaaWinP
import Derived.Test.YtlldocdmjeeaaaaMeetS
import Derived.Test.YtlldocdmjeeaaaaLeft
namespace Go.Proofs.Ytlldocdmjeeaaaa.hand
open Go.RowKit
open base mem grid

/-! ### in numbers alone: the boards in their order -/
theorem pw_one_step (pss : List (List Int)) (pre xs : List Int) (st : Cnt) (i : Nat) (hi : i < xs.length) : pw pss 1 pre (xs.drop i) st = pw pss 1 pre (xs.drop (i + 1)) (meetS pss (pre ++ [xs.getD i 0]) st) := by
  rw [pw_drop _ _ _ _ _ _ hi, pw_zero]
theorem fw_drop {pss : List (List Int)} {m : Nat} {pre xs : List Int} (h : FW pss m pre (xs.drop 0)) : ∀ k, FW pss m pre (xs.drop k)
  | 0 => h
  | k + 1 => FW.skip (fw_drop h k)
theorem fw_drop2 {pss : List (List Int)} {m : Nat} {pre xs : List Int} {a : Nat} (h : FW pss m pre (xs.drop a)) {j : Nat} (hj : a ≤ j) : FW pss m pre (xs.drop j) := by
  obtain ⟨d, rfl⟩ : ∃ d, j = a + d := ⟨j - a, by omega⟩
  have : xs.drop (a + d) = (xs.drop a).drop d := by rw [List.drop_drop]
  rw [this]
  exact fw_drop (xs := xs.drop a) h d

section
variable (w : World) (o0 o1 o2 : Obj)
theorem ci0 : (((w.alloc o0).alloc o1).alloc o2).drew.heap[w.heap.size + 0]? = some o0 := by
  have h := heap_alloc_new w o0
  exact (Below.heap_alloc ((w.alloc o0).alloc o1) o2 _ (by simp <;> omega)).trans ((Below.heap_alloc (w.alloc o0) o1 _ (by simp <;> omega)).trans h)
theorem ci1 : (((w.alloc o0).alloc o1).alloc o2).drew.heap[w.heap.size + 1]? = some o1 := by
  have e : (w.alloc o0).heap.size = w.heap.size + 1 := by simp
  have h := heap_alloc_new (w.alloc o0) o1
  rw [e] at h
  exact (Below.heap_alloc ((w.alloc o0).alloc o1) o2 _ (by simp <;> omega)).trans h
theorem ci2 : (((w.alloc o0).alloc o1).alloc o2).drew.heap[w.heap.size + 2]? = some o2 := by
  have e : ((w.alloc o0).alloc o1).heap.size = w.heap.size + 2 := by simp
  have h := heap_alloc_new ((w.alloc o0).alloc o1) o2
  rw [e] at h
  exact h
theorem ciB : Below w.heap.size w (((w.alloc o0).alloc o1).alloc o2).drew := below_drewN ((((Below.refl _ _).alloc (Nat.le_refl _) o0).alloc (by simp <;> omega) o1).alloc (by simp <;> omega) o2) 1
end
theorem own_zerS {w : World} {g m : Nat} (h : Blk w g 2 (Array.replicate m (.int .i64 0))) (hm : m ≤ 4) : Own w 0 (some ⟨g, 0, none⟩) m m (zer m) :=
  ⟨by simp [ivs, zer], .inr ⟨g, m, _, rfl, Nat.zero_le _, h, by simp, by simp [maxLen]; omega, by simp, by simp [ivs, zer]⟩⟩
theorem rd_blk {w : World} {g : Nat} {t : TypeId} {x : Int} (h : Blk w g t #[.int .i64 x]) : Rd w w.heap.size (some ⟨g, 0, none⟩) 1 [x] := by
  refine ⟨rfl, fun _ => ⟨g, 0, rfl, h.lt, fun k hk => ?_⟩⟩
  obtain rfl : k = 0 := by omega
  exact h.cell 0
theorem rd_blk2 {w : World} {g : Nat} {t : TypeId} {x y : Int} (h : Blk w g t #[.int .i64 x, .int .i64 y]) : Rd w w.heap.size (some ⟨g, 0, none⟩) 2 [x, y] := by
  refine ⟨rfl, fun _ => ⟨g, 0, rfl, h.lt, fun k hk => ?_⟩⟩
  obtain rfl | rfl : k = 0 ∨ k = 1 := by omega
  · exact h.cell 0
  · exact h.cell 1
theorem blk_new1 (w : World) (o : Obj) (t : TypeId) (cs : Array Value) : Blk ((w.alloc o).alloc (.cells cs t)) (w.heap.size + 1) t cs := by
  have := Blk.new (w.alloc o) t cs
  simpa using this
theorem ow1 (w : World) (o : Obj) (q : Nat) : Below w.heap.size w ((w.alloc o).drewN q) := below_drewN ((Below.refl _ _).alloc (Nat.le_refl _) _) q
theorem ow2 (w : World) (o o' : Obj) (q : Nat) : Below w.heap.size w (((w.alloc o).alloc o').drewN q) := below_drewN (((Below.refl _ _).alloc (Nat.le_refl _) _).alloc (by simp) _) q
/-- the struct of the counts, and its two rows -/
structure R3s (w1 : World) (A : Option Addr) (m c gS gw gt : Nat) (w : World) : Prop where
  nod : gS ≠ gw ∧ gS ≠ gt ∧ gw ≠ gt
  low : w1.heap.size ≤ gS ∧ w1.heap.size ≤ gw ∧ w1.heap.size ≤ gt
  box : Blk w gS 67 #[.slice A m c, .slice (some ⟨gw, 0, none⟩) m m, .slice (some ⟨gt, 0, none⟩) m m]
  winL : Blk w gw 2 (Array.replicate m (.int .i64 0))
  tieL : Blk w gt 2 (Array.replicate m (.int .i64 0))
  below : Below w1.heap.size w1 w
theorem R3s.ex {w1 : World} {A : Option Addr} {m c gS gw gt : Nat} {w : World} (box : Blk w gS 67 #[.slice A m c, .slice (some ⟨gw, 0, none⟩) m m, .slice (some ⟨gt, 0, none⟩) m m])
    (winL : Blk w gw 2 (Array.replicate m (.int .i64 0))) (tieL : Blk w gt 2 (Array.replicate m (.int .i64 0))) (nod : gS ≠ gw ∧ gS ≠ gt ∧ gw ≠ gt) (low : w1.heap.size ≤ gS ∧ w1.heap.size ≤ gw ∧ w1.heap.size ≤ gt) (below : Below w1.heap.size w1 w) :
    ∃ aS aw at_ : Nat, Value.pointer (some ⟨gS, 0, none⟩) = Value.pointer (some ⟨aS, 0, none⟩) ∧ R3s w1 A m c aS aw at_ w := ⟨gS, gw, gt, rfl, nod, low, box, winL, tieL, below⟩
/-- memory while boards are met -/
structure WS (w0 w : World) (A : Option Addr) (m c gS gw gt gl nL cL : Nat) (LE : List Int) (st : List Int × List Int) : Prop where
  nod : gS ≠ gw ∧ gS ≠ gt ∧ gw ≠ gt ∧ gl ≠ gw ∧ gl ≠ gt
  low : w0.heap.size ≤ gS ∧ w0.heap.size ≤ gw ∧ w0.heap.size ≤ gt ∧ w0.heap.size ≤ gl
  box : Blk w gS 67 #[.slice A m c, .slice (some ⟨gw, 0, none⟩) m m, .slice (some ⟨gt, 0, none⟩) m m]
  winL : Own w 0 (some ⟨gw, 0, none⟩) m m st.1
  tieL : Own w 0 (some ⟨gt, 0, none⟩) m m st.2
  lefL : Own w 0 (some ⟨gl, 0, none⟩) nL cL LE
  below : Below w0.heap.size w0 w
section
variable {w0 w w' : World} {A : Option Addr} {m c gS gw gt gl nL cL : Nat} {LE : List Int} {st st' : List Int × List Int}
theorem WS.kept (h : WS w0 w A m c gS gw gt gl nL cL LE st) (hb : Below w.heap.size w w') : WS w0 w' A m c gS gw gt gl nL cL LE st :=
  ⟨h.nod, h.low, h.box.below hb h.box.lt, h.winL.below hb (Nat.le_refl _), h.tieL.below hb (Nat.le_refl _), h.lefL.below hb (Nat.le_refl _), h.below.trans (hb.mono h.below.size)⟩
theorem WS.meet (h : WS w0 w A m c gS gw gt gl nL cL LE st) (ht : Two w w' gw gt) (hw : Own w' 0 (some ⟨gw, 0, none⟩) m m st'.1) (htl : Own w' 0 (some ⟨gt, 0, none⟩) m m st'.2) : WS w0 w' A m c gS gw gt gl nL cL LE st' :=
  ⟨h.nod, h.low, blk_same h.box (ht.block _ h.box.lt h.nod.1 h.nod.2.1), hw, htl, own_same h.lefL (fun k hk => by obtain rfl : gl = k := Option.some.inj hk; exact ht.block _ (h.lefL.ownBlock _ rfl).2 h.nod.2.2.2.1 h.nod.2.2.2.2), h.below.trans (ht.below h.low.2.1 h.low.2.2.1 h.below.size)⟩
end

set_option maxRecDepth 100000 in
set_option maxHeartbeats 8000000 in
theorem spec_WinCounts (A : Option Addr) (m c : Nat) (ts : List Sl) (pss : List (List Int)) (A2 : Option Addr) (n c2 : Nat) (bs : List Int) (w : World) (hR : RdS w w.heap.size A m ts) (he : con ts = pss) (hm : m ≤ 1048576) (hM : ∀ p ∈ pss, p.length ≤ 1048576)
    (hY : Rd w w.heap.size A2 n bs) (hn : n ≤ 1048576) (hnc : n ≤ c2) :
    Calls Try.prog 42 #[.slice A m c, .slice A2 n c2] w fun e w' => ∃ A' C' A3 C3, e = .returned (.tuple #[.slice A' (winW pss bs).length C', .slice A3 (winT pss bs).length C3, .int .i64 (winN pss bs), .bool (winOk pss bs)]) ∧
      Own w' w.heap.size A' (winW pss bs).length C' (winW pss bs) ∧ Own w' w.heap.size A3 (winT pss bs).length C3 (winT pss bs) ∧ Sep (.slice A' (winW pss bs).length C') (.slice A3 (winT pss bs).length C3) ∧ Below w.heap.size w w' := by
  have hl : pss.length = m := by rw [← he, con_len, hR.len]
  have hyl := hY.len
  have hcan := spec_can A m c ts pss A2 n c2 bs 3 w hR he hm hM hY hn (fun h3 e => by have := rd_none hY e; omega) (by omega)
  cases hk : canB pss bs 3
  · have h0 : winOk pss bs = false := hk
    have h1 : winW pss bs = [] := by simp [winW, h0]
    have h2 : winT pss bs = [] := by simp [winT, h0]
    have h3 : winN pss bs = 0 := by simp [winN, h0]
    rw [hk] at hcan
    have HC := hide hcan
    rw [h0, h1, h2, h3]
    clear hcan h0 h1 h2 h3 hR hY hk he hM
    go_enter Try.func42, Try.ntmps42
    go_wp2_with (go_at_call 73; refine HC.out.mono ?_; rintro e w' ⟨rfl, hb⟩)
    have HB := hide hb
    clear hb
    go_wp2
    (try simp only [Exit.inBlock, Exit.then])
    refine bodyPost_ret (results_four rfl _ _ _) rfl ?_
    exact ⟨none, 0, none, 0, rfl, Own.nil _ _, Own.nil _ _, .inl rfl, HB.out⟩
  · have h0 : winOk pss bs = true := hk
    have h1 : winW pss bs = (winS pss bs).1.1 := by simp [winW, h0]
    have h2 : winT pss bs = (winS pss bs).1.2 := by simp [winT, h0]
    have h3 : winN pss bs = (winS pss bs).2 := by simp [winN, h0]
    rw [hk] at hcan
    have HC := hide hcan
    have hpar := can_parts hk
    rw [hl, hyl] at hpar
    have HFW := hide (can_FW hk)
    have HLP := hide (can_left hk)
    obtain ⟨hm24, hn35, hp2, _⟩ := hpar
    rw [h0, h1, h2, h3]
    have HSL := hide (winS_len pss bs)
    rw [hl] at HSL
    have HSE := hide (show winS pss bs = pw pss (5 - n) bs ((unkL (pss ++ [bs])).drop 0) ((zer m, zer m), 0) by unfold winS; rw [hl, hyl]; rfl)
    obtain ⟨FIN, hFIN⟩ := ex_eq (winS pss bs)
    rw [hFIN] at HSL HSE ⊢
    have hmk : ∀ W : World, (Instr.makeSlice 22 (.int .i64 (m : Int)) (.int .i64 (m : Int))).run Try.prog W = .ok (.slice (some ⟨W.heap.size, 0, none⟩) m m) (W.alloc (.cells (Array.replicate m (.int .i64 0)) 2)) := by
      intro W
      obtain rfl | rfl | rfl : m = 2 ∨ m = 3 ∨ m = 4 := by omega
      · kernel_rfl
      · kernel_rfl
      · kernel_rfl
    clear hcan h0 h1 h2 h3 hk hFIN
    go_enter Try.func42, Try.ntmps42
    go_upto_region 3 with (go_at_call 73; refine HC.out.mono ?_; rintro e w1 ⟨rfl, hb1⟩)
    go_cut [8] from 18 to 26 (fun s8 wx => ∃ gS gw gt : Nat, s8 = .pointer (some ⟨gS, 0, none⟩) ∧ R3s w1 A m c gS gw gt wx)
    case first =>
      go_big_region
      all_goals
        go_wp2_with fail
        go_meet
        case rel =>
          have d0 := ci0 w1
          have d1 := ci1 w1
          have d2 := ci2 w1
          apply R3s.ex (below := ciB w1 _ _ _)
          case box => first | exact d0 _ _ _ | exact d1 _ _ _ | exact d2 _ _ _
          case winL => first | exact d0 _ _ _ | exact d1 _ _ _ | exact d2 _ _ _
          case tieL => first | exact d0 _ _ _ | exact d1 _ _ _ | exact d2 _ _ _
          case nod => simp <;> omega
          case low => simp <;> omega
    case rest =>
      obtain ⟨gS, gw, gt, rfl, h3⟩ := hcut
      have hbw : Below w.heap.size w wc := hb1.trans (h3.below.mono hb1.size)
      have hzc := hbw.size
      have hz1 := hb1.size
      have hRc := (hR.below hbw).more hzc
      have hYc := (hY.below hbw).more hzc
      have hMt : ∀ t ∈ ts, t.n ≤ 1048576 := by
        intro t ht
        have h1 := hM t.xs (by rw [← he]; exact List.mem_map.2 ⟨t, ht, rfl⟩)
        have h2 := (hR.2.1 t ht).1.len
        omega
      have HLF := hide (l03Left_any A m c ts A2 n c2 bs wc hRc hm hMt hYc hn)
      rw [he] at HLF
      obtain ⟨LE, hLE⟩ := ex_eq (unkL (pss ++ [bs]))
      have hLl := unk_len (pss ++ [bs])
      rw [hLE] at HLF HFW HLP HSE hLl
      obtain ⟨nL, hnL⟩ := ex_eq LE.length
      have HNL := hide hnL
      rw [hnL] at HLF HLP hLl
      have HB1 := hide hbw
      have HR3 := hide h3
      have HNO := hide (fun (e : A2 = none) => by have := rd_none hY e; omega : A2 = none → c2 = 0)
      rw [hl] at HFW
      clear hRc hYc hMt hLE hnL h3 hbw
      go_upto_region 6 with (go_at_call 74; refine HLF.out.mono ?_; rintro e w4 ⟨AL, cL, rfl, hoL, hb4⟩)
      obtain ⟨gl, rfl, hgl1, hgl2⟩ := hoL.form HLP.out
      have hws : WS w w4 A m c gS gw gt gl nL cL LE (zer m, zer m) := by
        have q1 := HR3.out.winL.lt
        have q2 := HR3.out.tieL.lt
        have q3 := HR3.out.box.lt
        have q4 := HR3.out.nod
        have q5 := HR3.out.low
        exact ⟨⟨q4.1, q4.2.1, q4.2.2, by omega, by omega⟩, ⟨by omega, by omega, by omega, by omega⟩, HR3.out.box.below hb4 q3, own_zerS (HR3.out.winL.below hb4 q1) hm24.2, own_zerS (HR3.out.tieL.below hb4 q2) hm24.2, hoL.mono (Nat.zero_le _), HB1.out.trans (hb4.mono hzc)⟩
      have HWS := hide hws
      clear hws hoL hb4
      rcases (show n = 5 ∨ n = 4 ∨ n = 3 by omega) with h5 | h5 | h5
      · subst h5
        have hF5 : FIN = meetS pss bs ((zer m, zer m), 0) := by rw [HSE.out]; exact pw_zero _ _ _ _
        have HMT := hide (l03Meet_any gS A m c ts pss A2 c2 bs gw gt (zer m) (zer m) w4 HWS.out.box ((hR.below HWS.out.below).more HWS.out.below.size) he hm24.1 hm24.2 ((hY.below HWS.out.below).more HWS.out.below.size) (fun j hj => ⟨(HFW.out j hj).1.left, (HFW.out j hj).2⟩) HWS.out.winL HWS.out.tieL HWS.out.nod.2.2.1 ⟨HWS.out.nod.1, HWS.out.nod.2.1⟩)
        have hW1 : meetW pss bs (zer m) = FIN.1.1 := by rw [hF5]; rfl
        have hT1 : meetT pss bs (zer m) = FIN.1.2 := by rw [hF5]; rfl
        have HN1 := hide (show FIN.2 = 1 by rw [hF5]; show wrap64 (0 + 1) = 1; exact IntWalk.wrap64_in _ (by omega))
        rw [hW1, hT1] at HMT
        clear hF5 hW1 hT1
        go_upto_region 26 with (go_at_call 75; refine HMT.out.mono ?_; rintro e w7 ⟨rfl, ho1, ho2, ht⟩)
        have hS := HWS.out.meet (st' := FIN.1) ht ho1 ho2
        clear ho1 ho2 ht
        have hc0 := hS.box.cell 0
        have hc1 := hS.box.cell 1
        have hc2 := hS.box.cell 2
        have HWL := hide hS.winL
        have HTI := hide hS.tieL
        have HLW := hide hS.below
        have hno := hS.nod
        have hlo := hS.low
        clear hS
        go_quiet (fail)
        go_wp2
        (try simp only [Exit.inBlock, Exit.then])
        refine bodyPost_ret (results_four rfl _ _ _) rfl ?_
        rw [HSL.out.1, HSL.out.2, HN1.out]
        exact ⟨_, _, _, _, rfl, own_up (HWL.out.drewN _) hlo.2.1, own_up (HTI.out.drewN _) hlo.2.2.1, .inr (by simp [Value.ownBlock]; omega), bdrewN HLW.out _⟩
      · subst h5
        have hF4 : pw pss 1 bs (LE.drop 0) ((zer m, zer m), 0) = FIN := HSE.out.symm
        go_wp2
        go_loopw [10, 72] (fun tot ix wr => ∃ (k : Nat) (st : Cnt), k ≤ nL ∧ ix = .int .i64 k ∧ tot = .int .i64 st.2 ∧ WS w wr A m c gS gw gt gl nL cL LE st.1 ∧ Hid (pw pss 1 bs (LE.drop k) st = FIN)) (fun _ ix _ => nL - (intOf ix).toNat)
        case atStart => exact ⟨0, _, Nat.zero_le _, rfl, rfl, HWS.out, hide hF4⟩
        case round =>
          obtain ⟨k, ⟨⟨wS, tS⟩, tot⟩, hk, rfl, rfl, hS, hF⟩ := hrel
          clear hF4
          by_cases hlt : k < nL
          · have hkx : k < LE.length := by rw [HNL.out]; exact hlt
            have hFx := hF.out
            rw [pw_one_step _ _ _ _ _ hkx] at hFx
            have hfw : FW pss m bs (LE.drop k) := fw_drop HFW.out k
            have hfp := FW.pick hfw hkx
            have hc := World.ownsRow.cellAt (h := hS.lefL) k (by omega)
            rw [ivs_at _ _ hkx] at hc
            have hgl := (hS.lefL.ownBlock _ rfl).2
            obtain ⟨x, hx⟩ := ex_eq (LE.getD k 0)
            rw [hx] at hc hFx hfp
            have HFX := hide hFx
            have HOK := hide (fun (W : World) (hbW : Below wr.heap.size wr W) => (((hY.below hS.below).more hS.below.size).below hbW).more hbW.size)
            have HM := hide (fun (W : World) (hbW : Below wr.heap.size wr W) (A3 : Option Addr) (c3 : Nat) (h3 : Rd W W.heap.size A3 5 (bs ++ [x])) => l03Meet_any gS A m c ts pss A3 c3 (bs ++ [x]) gw gt wS tS W (hS.kept hbW).box ((hR.below (hS.kept hbW).below).more (hS.kept hbW).below.size) he hm24.1 hm24.2 h3 (fun j hj => ⟨(hfp j hj).1.left, (hfp j hj).2⟩) (hS.kept hbW).winL (hS.kept hbW).tieL hS.nod.2.2.1 ⟨hS.nod.1, hS.nod.2.1⟩)
            have HS := hide hS
            clear hFx hfp hfw hkx hx hF hS
            go_upto_region 23 with fail
            go_region_law (first | (refine step_app rfl (.tmp 76) (.tmp 77) rfl wr.heap.size (.slice (some ⟨wr.heap.size, 0, none⟩) 0 0) [] bs rfl ((Lst.new wr (Nat.le_refl _)).drewN 1) A2 4 c2 rfl (HOK.out _ (ow1 wr _ 1)) HNO.out (by simp) (by simp <;> omega) ?_; intro v2 w2 ho2 hg2 _; have hb2 : Below wr.heap.size wr w2 := Below.trans (ow1 wr _ 1) (Lst.grown ((Lst.new wr (Nat.le_refl _)).drewN 1) hg2 (by simp <;> omega)); have hcl0 := (hb2.cell (p := ⟨gl, k, none⟩) hgl).trans hc; obtain ⟨A4, c4, rfl, _⟩ := ho2.formn (n := 4) (by simp [hyl])) | (refine step_app rfl (.tmp 76) (.tmp 77) rfl wr.heap.size (.slice (some ⟨wr.heap.size, 0, none⟩) 0 0) [] bs rfl (((Lst.new wr (Nat.le_refl _)).alloc _).drewN 1) A2 4 c2 rfl (HOK.out _ (ow2 wr _ _ 1)) HNO.out (by simp) (by simp <;> omega) ?_; intro v2 w2 ho2 hg2 _; have hb2 : Below wr.heap.size wr w2 := Below.trans (ow2 wr _ _ 1) (Lst.grown (((Lst.new wr (Nat.le_refl _)).alloc _).drewN 1) hg2 (by simp <;> omega)); have hX2 := rd_blk (((blk_new1 wr (.cells #[] 2) 2 #[.int .i64 x]).drewN 1).grown hg2 (by simp [Value.ownBlock])); obtain ⟨A4, c4, rfl, _⟩ := ho2.formn (n := 4) (by simp [hyl])) | (refine step_app rfl (.tmp 76) (.tmp 77) rfl wr.heap.size (.slice (some ⟨wr.heap.size + 1, 0, none⟩) 0 0) [] bs rfl ((Lst.new' (wr.alloc (.cells #[.int .i64 x] 2)) (B := wr.heap.size) (by simp) (g := wr.heap.size + 1) (by simp)).drewN 1) A2 4 c2 rfl (HOK.out _ (ow2 wr _ _ 1)) HNO.out (by simp) (by simp <;> omega) ?_; intro v2 w2 ho2 hg2 _; have hb2 : Below wr.heap.size wr w2 := Below.trans (ow2 wr _ _ 1) (Lst.grown ((Lst.new' (wr.alloc (.cells #[.int .i64 x] 2)) (B := wr.heap.size) (by simp) (g := wr.heap.size + 1) (by simp)).drewN 1) hg2 (by simp <;> omega)); have hX2 := rd_blk ((((Blk.new wr 2 #[.int .i64 x]).alloc _).drewN 1).grown hg2 (by simp [Value.ownBlock])); obtain ⟨A4, c4, rfl, _⟩ := ho2.formn (n := 4) (by simp [hyl])) | (refine step_app rfl (.tmp 78) (.tmp 83) rfl wr.heap.size _ bs [x] rfl (ho2.alloc _) (some ⟨w2.heap.size, 0, none⟩) 1 1 rfl (rd_blk (Blk.new w2 2 #[.int .i64 x])) (fun h => by cases h) (by simp [hyl]) (by have := hb2.size; simp <;> omega) ?_; intro v3 w3 ho3 hg3 _; have hb3 : Below wr.heap.size wr w3 := hb2.trans (((Below.refl _ _).alloc hb2.size _).trans (Lst.grown (ho2.alloc _) hg3 (by have := hb2.size; simp <;> omega))); obtain ⟨A5, c5, rfl, ho5⟩ := ho3.formn (n := 5) (by simp [hyl]); have HB3 := hide hb3; have HC3 := hide (HM.out _ hb3 A5 c5 ho5.rd); clear hb3 ho3 ho5 hg3) | (refine step_app rfl (.tmp 78) (.tmp 83) rfl wr.heap.size _ bs [x] rfl (ho2) (some ⟨_, 0, none⟩) 1 1 rfl (hX2) (fun h => by cases h) (by simp [hyl]) (by have := hb2.size; simp <;> omega) ?_; intro v3 w3 ho3 hg3 _; have hb3 : Below wr.heap.size wr w3 := hb2.trans (Lst.grown ho2 hg3 hb2.size); obtain ⟨A5, c5, rfl, ho5⟩ := ho3.formn (n := 5) (by simp [hyl]); have HB3 := hide hb3; have HC3 := hide (HM.out _ hb3 A5 c5 ho5.rd); clear hb3 ho3 ho5 hg3) | (go_simp; go_at_call 75; refine HC3.out.mono ?_; rintro e w7 ⟨rfl, hw7, ht7, h27⟩; have HS7 := hide ((HS.out.kept HB3.out).meet (st' := (_, _)) h27 hw7 ht7); clear hw7 ht7 h27))
            all_goals
              go_wp2
              go_roundw
              case rel => exact ⟨k + 1, ((meetW pss (bs ++ [x]) wS, meetT pss (bs ++ [x]) tS), wrap64 (tot + 1)), by omega, by go_num, rfl, HS7.out, HFX⟩
              case measure => simp [intOf]; omega
          · have hge : LE.length ≤ k := by rw [HNL.out]; omega
            have hFx := hF.out
            rw [pw_over _ _ _ _ _ _ hge] at hFx
            obtain rfl := hFx
            have hs1 : wS.length = m := HSL.out.1
            have hs2 : tS.length = m := HSL.out.2
            have hc0 := hS.box.cell 0
            have hc1 := hS.box.cell 1
            have hc2 := hS.box.cell 2
            have HWL := hide hS.winL
            have HTI := hide hS.tieL
            have HLW := hide hS.below
            have hno := hS.nod
            have hlo := hS.low
            have hzz := hS.box.lt
            clear hS hF hge
            go_upto_region 26 with fail
            go_quiet (fail)
            go_wp2
            (try simp only [Exit.inBlock, Exit.then])
            refine bodyPost_ret (results_four rfl _ _ _) rfl ?_
            (try dsimp only)
            (try rw [hs1, hs2])
            exact ⟨_, _, _, _, rfl, own_up (HWL.out.drewN _) hlo.2.1, own_up (HTI.out.drewN _) hlo.2.2.1, .inr (by simp [Value.ownBlock]; omega), bdrewN HLW.out _⟩
      · subst h5
        have hF3 : pw pss 2 bs (LE.drop 0) ((zer m, zer m), 0) = FIN := HSE.out.symm
        have hw52 : wrap64 ((nL : Int) + 1) = (nL : Int) + 1 := IntWalk.wrap64_in _ ⟨by omega, by omega⟩
        clear hw52
        go_wp2
        go_loopw [10, 34] (fun tot ix wr => ∃ (k : Nat) (st : Cnt), k ≤ nL ∧ ix = .int .i64 k ∧ tot = .int .i64 st.2 ∧ WS w wr A m c gS gw gt gl nL cL LE st.1 ∧ Hid (pw pss 2 bs (LE.drop k) st = FIN)) (fun _ ix _ => nL - (intOf ix).toNat)
        case atStart => exact ⟨0, _, Nat.zero_le _, rfl, rfl, HWS.out, hide hF3⟩
        case round =>
          obtain ⟨k, ⟨⟨wS0, tS0⟩, tot0⟩, hk, rfl, rfl, hS0, hF0⟩ := hrel
          clear hF3
          by_cases hlt : k < nL
          · have hkx : k < LE.length := by rw [HNL.out]; exact hlt
            have hFx := hF0.out
            rw [pw_drop _ _ _ _ _ _ hkx] at hFx
            have hfp0 : FW pss m (bs ++ [LE.getD k 0]) (LE.drop (k + 1)) := FW.pick (fw_drop HFW.out k) hkx
            obtain ⟨x, hx⟩ := ex_eq (LE.getD k 0)
            rw [hx] at hFx hfp0
            have HX := hide hx
            have HF0 := hide hFx
            have HFP := hide hfp0
            have HS0 := hide hS0
            obtain ⟨wo, rfl⟩ : ∃ wo : World, wo = wr := ⟨_, rfl⟩
            clear hFx hfp0 hx hF0 hS0
            go_wp2
            go_loopw [10, 13] (fun tot jx wr => ∃ (j : Nat) (st : Cnt), k + 1 ≤ j ∧ j ≤ nL ∧ jx = .int .i64 j ∧ tot = .int .i64 st.2 ∧ WS w wr A m c gS gw gt gl nL cL LE st.1 ∧ Hid (pw pss 2 bs (LE.drop (k + 1)) (pw pss 1 (bs ++ [x]) (LE.drop j) st) = FIN)) (fun _ jx _ => nL - (intOf jx).toNat)
            case atStart => exact ⟨k + 1, _, Nat.le_refl _, by omega, by go_num, rfl, HS0.out, HF0⟩
            case round =>
              obtain ⟨j, ⟨⟨wS, tS⟩, tot⟩, hkj, hj, rfl, rfl, hS, hF⟩ := hrel
              clear HF0 HS0
              by_cases hjl : j < nL
              · have hjx : j < LE.length := by rw [HNL.out]; exact hjl
                have hFx := hF.out
                rw [pw_one_step _ _ _ _ _ hjx] at hFx
                have hfp := FW.pick (fw_drop2 HFP.out hkj) hjx
                have hc := World.ownsRow.cellAt (h := hS.lefL) k (by omega)
                rw [ivs_at _ _ hkx, HX.out] at hc
                have hcj := World.ownsRow.cellAt (h := hS.lefL) j (by omega)
                rw [ivs_at _ _ hjx] at hcj
                have hgl := (hS.lefL.ownBlock _ rfl).2
                obtain ⟨y, hy⟩ := ex_eq (LE.getD j 0)
                have hxy : (bs ++ [x]) ++ [y] = bs ++ [x, y] := by simp
                rw [hy] at hcj hFx hfp
                rw [hxy] at hFx hfp
                have HFX := hide hFx
                have HOK := hide (fun (W : World) (hbW : Below wr.heap.size wr W) => (((hY.below hS.below).more hS.below.size).below hbW).more hbW.size)
                have HM := hide (fun (W : World) (hbW : Below wr.heap.size wr W) (A3 : Option Addr) (c3 : Nat) (h3 : Rd W W.heap.size A3 5 (bs ++ [x, y])) => l03Meet_any gS A m c ts pss A3 c3 (bs ++ [x, y]) gw gt wS tS W (hS.kept hbW).box ((hR.below (hS.kept hbW).below).more (hS.kept hbW).below.size) he hm24.1 hm24.2 h3 (fun j hj => ⟨(hfp j hj).1.left, (hfp j hj).2⟩) (hS.kept hbW).winL (hS.kept hbW).tieL hS.nod.2.2.1 ⟨hS.nod.1, hS.nod.2.1⟩)
                have HS := hide hS
                clear hFx hfp hkx hjx hy hxy hF hS
                go_upto_region 13 with fail
                go_region_law (first | (refine step_app rfl (.tmp 46) (.tmp 47) rfl wr.heap.size (.slice (some ⟨wr.heap.size, 0, none⟩) 0 0) [] bs rfl ((Lst.new wr (Nat.le_refl _)).drewN 1) A2 3 c2 rfl (HOK.out _ (ow1 wr _ 1)) HNO.out (by simp) (by simp <;> omega) ?_; intro v2 w2 ho2 hg2 _; have hb2 : Below wr.heap.size wr w2 := Below.trans (ow1 wr _ 1) (Lst.grown ((Lst.new wr (Nat.le_refl _)).drewN 1) hg2 (by simp <;> omega)); have hcl0 := (hb2.cell (p := ⟨gl, k, none⟩) hgl).trans hc; have hcl1 := (hb2.cell (p := ⟨gl, j, none⟩) hgl).trans hcj; obtain ⟨A4, c4, rfl, _⟩ := ho2.formn (n := 3) (by simp [hyl])) | (refine step_app rfl (.tmp 46) (.tmp 47) rfl wr.heap.size (.slice (some ⟨wr.heap.size, 0, none⟩) 0 0) [] bs rfl (((Lst.new wr (Nat.le_refl _)).alloc _).drewN 1) A2 3 c2 rfl (HOK.out _ (ow2 wr _ _ 1)) HNO.out (by simp) (by simp <;> omega) ?_; intro v2 w2 ho2 hg2 _; have hb2 : Below wr.heap.size wr w2 := Below.trans (ow2 wr _ _ 1) (Lst.grown (((Lst.new wr (Nat.le_refl _)).alloc _).drewN 1) hg2 (by simp <;> omega)); have hX2 := rd_blk2 (((blk_new1 wr (.cells #[] 2) 2 #[.int .i64 x, .int .i64 y]).drewN 1).grown hg2 (by simp [Value.ownBlock])); obtain ⟨A4, c4, rfl, _⟩ := ho2.formn (n := 3) (by simp [hyl])) | (refine step_app rfl (.tmp 46) (.tmp 47) rfl wr.heap.size (.slice (some ⟨wr.heap.size + 1, 0, none⟩) 0 0) [] bs rfl ((Lst.new' (wr.alloc (.cells #[.int .i64 x, .int .i64 y] 2)) (B := wr.heap.size) (by simp) (g := wr.heap.size + 1) (by simp)).drewN 1) A2 3 c2 rfl (HOK.out _ (ow2 wr _ _ 1)) HNO.out (by simp) (by simp <;> omega) ?_; intro v2 w2 ho2 hg2 _; have hb2 : Below wr.heap.size wr w2 := Below.trans (ow2 wr _ _ 1) (Lst.grown ((Lst.new' (wr.alloc (.cells #[.int .i64 x, .int .i64 y] 2)) (B := wr.heap.size) (by simp) (g := wr.heap.size + 1) (by simp)).drewN 1) hg2 (by simp <;> omega)); have hX2 := rd_blk2 ((((Blk.new wr 2 #[.int .i64 x, .int .i64 y]).alloc _).drewN 1).grown hg2 (by simp [Value.ownBlock])); obtain ⟨A4, c4, rfl, _⟩ := ho2.formn (n := 3) (by simp [hyl])) | (refine step_app rfl (.tmp 48) (.tmp 57) rfl wr.heap.size _ bs [x, y] rfl (ho2.alloc _) (some ⟨w2.heap.size, 0, none⟩) 2 2 rfl (rd_blk2 (Blk.new w2 2 #[.int .i64 x, .int .i64 y])) (fun h => by cases h) (by simp [hyl]) (by have := hb2.size; simp <;> omega) ?_; intro v3 w3 ho3 hg3 _; have hb3 : Below wr.heap.size wr w3 := hb2.trans (((Below.refl _ _).alloc hb2.size _).trans (Lst.grown (ho2.alloc _) hg3 (by have := hb2.size; simp <;> omega))); obtain ⟨A5, c5, rfl, ho5⟩ := ho3.formn (n := 5) (by simp [hyl]); have HB3 := hide hb3; have HC3 := hide (HM.out _ hb3 A5 c5 ho5.rd); clear hb3 ho3 ho5 hg3) | (refine step_app rfl (.tmp 48) (.tmp 57) rfl wr.heap.size _ bs [x, y] rfl (ho2) (some ⟨_, 0, none⟩) 2 2 rfl (hX2) (fun h => by cases h) (by simp [hyl]) (by have := hb2.size; simp <;> omega) ?_; intro v3 w3 ho3 hg3 _; have hb3 : Below wr.heap.size wr w3 := hb2.trans (Lst.grown ho2 hg3 hb2.size); obtain ⟨A5, c5, rfl, ho5⟩ := ho3.formn (n := 5) (by simp [hyl]); have HB3 := hide hb3; have HC3 := hide (HM.out _ hb3 A5 c5 ho5.rd); clear hb3 ho3 ho5 hg3) | (go_simp; go_at_call 75; refine HC3.out.mono ?_; rintro e w7 ⟨rfl, hw7, ht7, h27⟩; have HS7 := hide ((HS.out.kept HB3.out).meet (st' := (_, _)) h27 hw7 ht7); clear hw7 ht7 h27))
                all_goals
                  go_wp2
                  go_roundw
                  case rel => exact ⟨j + 1, ((meetW pss (bs ++ [x, y]) wS, meetT pss (bs ++ [x, y]) tS), wrap64 (tot + 1)), by omega, by omega, by go_num, rfl, HS7.out, HFX⟩
                  case measure => simp [intOf]; omega
              · have hge : LE.length ≤ j := by rw [HNL.out]; omega
                have hFx := hF.out
                rw [pw_over _ _ _ _ _ _ hge] at hFx
                have HFX := hide hFx
                have HS := hide hS
                clear hFx hF hS hge
                go_wp2
                go_roundw
                case rel => exact ⟨k + 1, ((wS, tS), tot), by omega, by go_num, rfl, HS.out, HFX⟩
                case measure => simp [intOf]; omega
          · have hge : LE.length ≤ k := by rw [HNL.out]; omega
            have hFx := hF0.out
            rw [pw_over _ _ _ _ _ _ hge] at hFx
            have hS := hS0
            clear hS0
            obtain rfl := hFx
            have hs1 : wS0.length = m := HSL.out.1
            have hs2 : tS0.length = m := HSL.out.2
            have hc0 := hS.box.cell 0
            have hc1 := hS.box.cell 1
            have hc2 := hS.box.cell 2
            have HWL := hide hS.winL
            have HTI := hide hS.tieL
            have HLW := hide hS.below
            have hno := hS.nod
            have hlo := hS.low
            have hzz := hS.box.lt
            clear hS hF0 hge
            go_upto_region 26 with fail
            go_quiet (fail)
            go_wp2
            (try simp only [Exit.inBlock, Exit.then])
            refine bodyPost_ret (results_four rfl _ _ _) rfl ?_
            (try dsimp only)
            (try rw [hs1, hs2])
            exact ⟨_, _, _, _, rfl, own_up (HWL.out.drewN _) hlo.2.1, own_up (HTI.out.drewN _) hlo.2.2.1, .inr (by simp [Value.ownBlock]; omega), bdrewN HLW.out _⟩

end Go.Proofs.Ytlldocdmjeeaaaa.hand
