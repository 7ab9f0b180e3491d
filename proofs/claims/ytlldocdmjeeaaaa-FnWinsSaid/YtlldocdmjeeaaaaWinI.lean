/-
  How often each hand wins, in the implementation. Conditions: those of each theorem.
-/
import Derived.Test.YtlldocdmjeeaaaaWinP
import Derived.Test.YtlldocdmjeeaaaaOuts
import Derived.Test.YtlldocdmjeeaaaaAppS
import Derived.Laws.EntriesVeiled
namespace Go.Proofs.Ytlldocdmjeeaaaa.hand
open Go.RowKit
open base mem grid

section
variable (w : World) (o0 o1 o2 o3 o4 : Obj)
theorem ch0 : (((((w.alloc o0).alloc o1).alloc o2).alloc o3).alloc o4).drew.heap[w.heap.size + 0]? = some o0 := by
  have h := heap_alloc_new w o0
  exact (Below.heap_alloc ((((w.alloc o0).alloc o1).alloc o2).alloc o3) o4 _ (by simp <;> omega)).trans ((Below.heap_alloc (((w.alloc o0).alloc o1).alloc o2) o3 _ (by simp <;> omega)).trans ((Below.heap_alloc ((w.alloc o0).alloc o1) o2 _ (by simp <;> omega)).trans ((Below.heap_alloc (w.alloc o0) o1 _ (by simp <;> omega)).trans (h))))
theorem ch1 : (((((w.alloc o0).alloc o1).alloc o2).alloc o3).alloc o4).drew.heap[w.heap.size + 1]? = some o1 := by
  have e : (w.alloc o0).heap.size = w.heap.size + 1 := by simp
  have h := heap_alloc_new (w.alloc o0) o1
  rw [e] at h
  exact (Below.heap_alloc ((((w.alloc o0).alloc o1).alloc o2).alloc o3) o4 _ (by simp <;> omega)).trans ((Below.heap_alloc (((w.alloc o0).alloc o1).alloc o2) o3 _ (by simp <;> omega)).trans ((Below.heap_alloc ((w.alloc o0).alloc o1) o2 _ (by simp <;> omega)).trans (h)))
theorem ch2 : (((((w.alloc o0).alloc o1).alloc o2).alloc o3).alloc o4).drew.heap[w.heap.size + 2]? = some o2 := by
  have e : ((w.alloc o0).alloc o1).heap.size = w.heap.size + 2 := by simp
  have h := heap_alloc_new ((w.alloc o0).alloc o1) o2
  rw [e] at h
  exact (Below.heap_alloc ((((w.alloc o0).alloc o1).alloc o2).alloc o3) o4 _ (by simp <;> omega)).trans ((Below.heap_alloc (((w.alloc o0).alloc o1).alloc o2) o3 _ (by simp <;> omega)).trans (h))
theorem ch3 : (((((w.alloc o0).alloc o1).alloc o2).alloc o3).alloc o4).drew.heap[w.heap.size + 3]? = some o3 := by
  have e : (((w.alloc o0).alloc o1).alloc o2).heap.size = w.heap.size + 3 := by simp
  have h := heap_alloc_new (((w.alloc o0).alloc o1).alloc o2) o3
  rw [e] at h
  exact (Below.heap_alloc ((((w.alloc o0).alloc o1).alloc o2).alloc o3) o4 _ (by simp <;> omega)).trans (h)
theorem ch4 : (((((w.alloc o0).alloc o1).alloc o2).alloc o3).alloc o4).drew.heap[w.heap.size + 4]? = some o4 := by
  have e : ((((w.alloc o0).alloc o1).alloc o2).alloc o3).heap.size = w.heap.size + 4 := by simp
  have h := heap_alloc_new ((((w.alloc o0).alloc o1).alloc o2).alloc o3) o4
  rw [e] at h
  exact h
theorem chB : Below w.heap.size w (((((w.alloc o0).alloc o1).alloc o2).alloc o3).alloc o4).drew := below_drewN ((((((Below.refl _ _).alloc (Nat.le_refl _) o0).alloc (by simp <;> omega) o1).alloc (by simp <;> omega) o2).alloc (by simp <;> omega) o3).alloc (by simp <;> omega) o4) 1
end
theorem own_zer {w : World} {g m : Nat} (h : Blk w g 2 (Array.replicate m (.int .i64 0))) (hm : m ≤ 4) : Own w 0 (some ⟨g, 0, none⟩) m m (zer m) :=
  ⟨by simp [ivs, zer], .inr ⟨g, m, _, rfl, Nat.zero_le _, h, by simp, by simp [maxLen]; omega, by simp, by simp [ivs, zer]⟩⟩
/-- what region 3 leaves -/
structure R3 (w1 : World) (m gW gT gS gw gt : Nat) (w : World) : Prop where
  nod : [gW, gT, gS, gw, gt].Nodup
  low : ∀ k ∈ [gW, gT, gS, gw, gt], w1.heap.size ≤ k
  wins : Blk w gW 22 #[.slice (some ⟨gw, 0, none⟩) m m]
  ties : Blk w gT 22 #[.slice (some ⟨gt, 0, none⟩) m m]
  sets : Blk w gS 2 #[.int .i64 0]
  winL : Blk w gw 2 (Array.replicate m (.int .i64 0))
  tieL : Blk w gt 2 (Array.replicate m (.int .i64 0))
  below : Below w1.heap.size w1 w
theorem R3.ex {w1 : World} {m gW gT gS gw gt : Nat} {w : World}
    (wins : Blk w gW 22 #[.slice (some ⟨gw, 0, none⟩) m m]) (ties : Blk w gT 22 #[.slice (some ⟨gt, 0, none⟩) m m]) (sets : Blk w gS 2 #[.int .i64 0])
    (winL : Blk w gw 2 (Array.replicate m (.int .i64 0))) (tieL : Blk w gt 2 (Array.replicate m (.int .i64 0))) (nod : [gW, gT, gS, gw, gt].Nodup) (low : ∀ k ∈ [gW, gT, gS, gw, gt], w1.heap.size ≤ k) (below : Below w1.heap.size w1 w) :
    ∃ aW aT aS aw at_ : Nat, Value.pointer (some ⟨gW, 0, none⟩) = Value.pointer (some ⟨aW, 0, none⟩) ∧ Value.pointer (some ⟨gT, 0, none⟩) = Value.pointer (some ⟨aT, 0, none⟩) ∧ Value.pointer (some ⟨gS, 0, none⟩) = Value.pointer (some ⟨aS, 0, none⟩) ∧ R3 w1 m aW aT aS aw at_ w :=
  ⟨gW, gT, gS, gw, gt, rfl, rfl, rfl, nod, low, wins, ties, sets, winL, tieL, below⟩
set_option maxRecDepth 100000 in
set_option maxHeartbeats 8000000 in
theorem impl_WinCounts (A : Option Addr) (m c : Nat) (ts : List Sl) (pss : List (List Int)) (A2 : Option Addr) (n c2 : Nat) (bs : List Int) (w : World) (hR : RdS w w.heap.size A m ts) (he : con ts = pss) (hm : m ≤ 1048576) (hM : ∀ p ∈ pss, p.length ≤ 1048576)
    (hY : Rd w w.heap.size A2 n bs) (hn : n ≤ 1048576) (hnc : n ≤ c2) :
    Calls Try.prog 43 #[.slice A m c, .slice A2 n c2] w fun e w' => ∃ A' C' A3 C3, e = .returned (.tuple #[.slice A' (winW pss bs).length C', .slice A3 (winT pss bs).length C3, .int .i64 (winN pss bs), .bool (winOk pss bs)]) ∧
      Own w' w.heap.size A' (winW pss bs).length C' (winW pss bs) ∧ Own w' w.heap.size A3 (winT pss bs).length C3 (winT pss bs) ∧ Sep (.slice A' (winW pss bs).length C') (.slice A3 (winT pss bs).length C3) ∧ Below w.heap.size w w' := by
  have hl : pss.length = m := by rw [← he, con_len, hR.len]
  have hyl := hY.len
  have hcan := impl_can A m c ts pss A2 n c2 bs 3 (w.alloc (.cells #[.slice A m c] 32)) (hR.allocS _) he hm hM ((hY.alloc (Nat.le_refl _) _).more (by simp)) hn (fun h3 e => by have := rd_none hY e; omega) (by omega)
  cases hk : canB pss bs 3
  · have h0 : winOk pss bs = false := hk
    have h1 : winW pss bs = [] := by simp [winW, h0]
    have h2 : winT pss bs = [] := by simp [winT, h0]
    have h3 : winN pss bs = 0 := by simp [winN, h0]
    rw [hk] at hcan
    have HC := hide hcan
    rw [h0, h1, h2, h3]
    clear hcan h0 h1 h2 h3 hR hY hk he hM
    go_enter Try.func43, Try.ntmps43
    go_wp2_with (go_at_call 76; refine HC.out.mono ?_; rintro e w' ⟨rfl, hb⟩)
    have HB := hide (((Below.refl _ _).alloc (Nat.le_refl w.heap.size) _).trans (hb.mono (by simp)))
    clear hb
    go_wp2
    (try simp only [Exit.inBlock, Exit.then])
    refine bodyPost_ret (results_four rfl _ _ _) rfl ?_
    exact ⟨none, 0, none, 0, rfl, Own.nil _ _, Own.nil _ _, .inl rfl, HB.out⟩
  · have h0 : winOk pss bs = true := hk
    have h1 : winW pss bs = (winS pss bs).1.1 := by simp [winW, h0]
    have h2 : winT pss bs = (winS pss bs).1.2 := by simp [winT, h0]
    have h3 : winN pss bs = (winS pss bs).2 := by simp [winN, h0]
    rw [hk] at hcan
    have HC := hide hcan
    have hpar := can_parts hk
    rw [hl, hyl] at hpar
    have HFW := hide (can_FW hk)
    have HLP := hide (can_left hk)
    obtain ⟨hm24, hn35, hp2, _⟩ := hpar
    rw [h0, h1, h2, h3]
    have HSL := hide (winS_len pss bs)
    rw [hl] at HSL
    have HSE := hide (show winS pss bs = pw pss (5 - n) bs ((unkL (pss ++ [bs])).drop 0) ((zer m, zer m), 0) by unfold winS; rw [hl, hyl]; rfl)
    obtain ⟨FIN, hFIN⟩ := ex_eq (winS pss bs)
    rw [hFIN] at HSL HSE ⊢
    have hmk : ∀ W : World, (Instr.makeSlice 22 (.int .i64 (m : Int)) (.int .i64 (m : Int))).run Try.prog W = .ok (.slice (some ⟨W.heap.size, 0, none⟩) m m) (W.alloc (.cells (Array.replicate m (.int .i64 0)) 2)) := by
      intro W
      obtain rfl | rfl | rfl : m = 2 ∨ m = 3 ∨ m = 4 := by omega
      · kernel_rfl
      · kernel_rfl
      · kernel_rfl
    clear hcan h0 h1 h2 h3 hk hFIN
    go_enter Try.func43, Try.ntmps43
    go_upto_region 3 with (go_at_call 76; refine HC.out.mono ?_; rintro e w1 ⟨rfl, hb1⟩)
    have hbox := (Blk.new w 32 #[.slice A m c]).below hb1 (by simp)
    have hcb := hbox.cell 0
    have hz1 := hbox.lt
    have hcb0 : w1.drew.cell? ⟨w.heap.size, 0, none⟩ = some (.slice A m c) := hbox.cell 0
    have hcb1 : ∀ o0, (w1.alloc o0).drew.cell? ⟨w.heap.size, 0, none⟩ = some (.slice A m c) := fun o0 => (hbox.alloc o0).cell 0
    have hcb2 : ∀ o0 o1, ((w1.alloc o0).alloc o1).drew.cell? ⟨w.heap.size, 0, none⟩ = some (.slice A m c) := fun o0 o1 => ((hbox.alloc o0).alloc o1).cell 0
    have hcb3 : ∀ o0 o1 o2, (((w1.alloc o0).alloc o1).alloc o2).drew.cell? ⟨w.heap.size, 0, none⟩ = some (.slice A m c) := fun o0 o1 o2 => (((hbox.alloc o0).alloc o1).alloc o2).cell 0
    have hcb4 : ∀ o0 o1 o2 o3, ((((w1.alloc o0).alloc o1).alloc o2).alloc o3).drew.cell? ⟨w.heap.size, 0, none⟩ = some (.slice A m c) := fun o0 o1 o2 o3 => ((((hbox.alloc o0).alloc o1).alloc o2).alloc o3).cell 0
    have hcb5 : ∀ o0 o1 o2 o3 o4, (((((w1.alloc o0).alloc o1).alloc o2).alloc o3).alloc o4).drew.cell? ⟨w.heap.size, 0, none⟩ = some (.slice A m c) := fun o0 o1 o2 o3 o4 => (((((hbox.alloc o0).alloc o1).alloc o2).alloc o3).alloc o4).cell 0
    go_cut [8, 9, 10] from 18 to 23 (fun s8 s9 s10 wx => ∃ gW gT gS gw gt : Nat, s8 = .pointer (some ⟨gW, 0, none⟩) ∧ s9 = .pointer (some ⟨gT, 0, none⟩) ∧ s10 = .pointer (some ⟨gS, 0, none⟩) ∧ R3 w1 m gW gT gS gw gt wx)
    case first =>
      go_big_region
      all_goals
        go_wp2_with fail
        go_meet
        case rel =>
          have d0 := ch0 w1
          have d1 := ch1 w1
          have d2 := ch2 w1
          have d3 := ch3 w1
          have d4 := ch4 w1
          apply R3.ex (below := chB w1 _ _ _ _ _)
          case wins => first | exact d0 _ _ _ _ _ | exact d1 _ _ _ _ _ | exact d2 _ _ _ _ _ | exact d3 _ _ _ _ _ | exact d4 _ _ _ _ _
          case ties => first | exact d0 _ _ _ _ _ | exact d1 _ _ _ _ _ | exact d2 _ _ _ _ _ | exact d3 _ _ _ _ _ | exact d4 _ _ _ _ _
          case sets => first | exact d0 _ _ _ _ _ | exact d1 _ _ _ _ _ | exact d2 _ _ _ _ _ | exact d3 _ _ _ _ _ | exact d4 _ _ _ _ _
          case winL => first | exact d0 _ _ _ _ _ | exact d1 _ _ _ _ _ | exact d2 _ _ _ _ _ | exact d3 _ _ _ _ _ | exact d4 _ _ _ _ _
          case tieL => first | exact d0 _ _ _ _ _ | exact d1 _ _ _ _ _ | exact d2 _ _ _ _ _ | exact d3 _ _ _ _ _ | exact d4 _ _ _ _ _
          case nod => simp <;> omega
          case low => simp <;> omega
    case rest =>
      obtain ⟨gW, gT, gS, gw, gt, rfl, rfl, rfl, h3⟩ := hcut
      have hbw : Below w.heap.size w wc := (((Below.refl _ _).alloc (Nat.le_refl w.heap.size) (.cells #[.slice A m c] 32)).trans (hb1.mono (by simp))).trans (h3.below.mono (by omega))
      have hbH := hbox.below h3.below hz1
      have hcH := hbH.cell 0
      have hzc := hbw.size
      have hRc := (hR.below hbw).more hzc
      have hYc := (hY.below hbw).more hzc
      have hok2 : ∀ W : World, Below wc.heap.size wc W → ∀ t ∈ ts ++ [⟨A2, n, c2, bs⟩], Sl.ok W W.heap.size t := by
        intro W hW t ht
        rcases List.mem_append.1 ht with ht | ht
        · exact ((hRc.2.1 t ht).below hW).more hW.size
        · simp at ht
          subst ht
          exact ⟨(hYc.below hW).more hW.size, hnc, fun e => by have := rd_none hY e; omega⟩
      have HOK := hide hok2
      have HCL := hide (CloneS_any A m c ts wc hRc hm (by omega))
      have hconE : con (ts ++ [⟨A2, n, c2, bs⟩]) = pss ++ [bs] := by rw [con_app, he]; rfl
      have hMM : ∀ t ∈ ts ++ [⟨A2, n, c2, bs⟩], t.n ≤ 1048576 := by
        intro t ht
        rcases List.mem_append.1 ht with ht | ht
        · have h1 := hM t.xs (by rw [← he]; exact List.mem_map.2 ⟨t, ht, rfl⟩)
          have h2 := (hR.2.1 t ht).1.len
          omega
        · simp at ht
          subst ht
          exact hn
      have HUN := hide (fun A4 c4 W (hr : RdS W W.heap.size A4 (m + 1) (ts ++ [⟨A2, n, c2, bs⟩])) => unknown_any A4 (m + 1) c4 _ W hr (by omega) hMM)
      rw [hconE] at HUN
      obtain ⟨LE, hLE⟩ := ex_eq (unkL (pss ++ [bs]))
      have hLl := unk_len (pss ++ [bs])
      rw [hLE] at HUN HFW HLP HSE hLl
      obtain ⟨nL, hnL⟩ := ex_eq LE.length
      have HNL := hide hnL
      rw [hnL] at HUN HLP hLl
      have HTL := hide (show ts.length = m by rw [← hl, ← he, con_len])
      have HB1 := hide hbw
      have HBH := hide hbH
      have HR3 := hide h3
      clear hbw hbH hYc hRc hok2 hconE hMM hLE hnL h3
      go_upto_region 5 with (first | (go_at_call 77; refine HCL.out.mono ?_; rintro e w2 ⟨Ac, cc, rfl, hoc, hbc⟩) | (at_builtin; refine wpList_appS rfl (.tmp 25) (.tmp 27) rfl wc.heap.size _ ts [⟨A2, n, c2, bs⟩] rfl (show LstS (w2.alloc (.cells #[.slice A2 n c2] 22)) wc.heap.size (.slice Ac m cc) ts by unfold LstS; rw [HTL.out]; exact World.ownsRow.alloc hoc _) (some ⟨w2.heap.size, 0, none⟩) 1 1 rfl (rdS_one w2 A2 n c2 bs (HOK.out w2 hbc ⟨A2, n, c2, bs⟩ (by simp)).1 hnc (HOK.out w2 hbc ⟨A2, n, c2, bs⟩ (by simp)).2.2) (fun h => by cases h) (by rw [HTL.out]; omega) (by simp; have := hbc.size; omega) ?_; intro v3 w3 ho3 hg3 hbk3; have hzz := hbc.size; have hb3 : Below wc.heap.size wc w3 := (hbc.alloc hbc.size (.cells #[.slice A2 n c2] 22)).grown hg3 (by simp; omega) (fun k hk => (LstS.blk (show LstS (w2.alloc (.cells #[.slice A2 n c2] 22)) wc.heap.size (.slice Ac m cc) ts by unfold LstS; rw [HTL.out]; exact World.ownsRow.alloc hoc _) k hk).1); obtain ⟨A4, c4, rfl, ho4⟩ := ho3.form (n := m + 1) (by simp [HTL.out]); have HU := hide (HUN.out A4 c4 w3 (LstS.rd ho4 (HOK.out w3 hb3)))) | (go_at_call 65; refine HU.out.mono ?_; rintro e w4 ⟨AL, cL, rfl, hoL, hbL⟩))
      obtain ⟨gl, rfl, hgl1, hgl2⟩ := hoL.form HLP.out
      have hz3 := hb3.size
      have hb4 : Below wc.heap.size wc w4 := hb3.trans (hbL.mono hz3)
      have hz4 := hbL.size
      have HOL := hide hoL
      have HB4 := hide (hb4.alloc hb4.size (.cells #[.slice (some ⟨gl, 0, none⟩) nL cL] 22))
      have HCB := hide (Clone_any A2 n c2 bs (w4.alloc (.cells #[.slice (some ⟨gl, 0, none⟩) nL cL] 22)) (HOK.out _ HB4.out ⟨A2, n, c2, bs⟩ (by simp)).1 hn (fun e => by have := rd_none hY e; omega))
      rw [show (w4.alloc (.cells #[.slice (some ⟨gl, 0, none⟩) nL cL] 22)).heap.size = w4.heap.size + 1 by simp] at HCB
      have hmf : ∀ (fn : Fn) (first cap : Array Value) (w : World), (Instr.makeFunc fn first cap).run Try.prog w = .ok (.func fn first cap) w := fun _ _ _ _ => rfl
      clear hoL hbL hb4 ho4 hg3 hbk3 hoc hbc hb3
      go_upto_region 8 with (go_at_call 66; refine HCB.out.mono ?_; rintro e w5 ⟨A5, c5, rfl, ho5, hb5⟩)
      have hwc1 := HR3.out.below.size
      have hlt1 := HR3.out.wins.lt
      have hlt2 := HR3.out.ties.lt
      have hlt3 := HR3.out.sets.lt
      have hlt4 := HR3.out.winL.lt
      have hlt5 := HR3.out.tieL.lt
      have hge := HR3.out.low
      have hnod := HR3.out.nod
      simp only [List.mem_cons, List.not_mem_nil, or_false, forall_eq_or_imp, forall_eq] at hge
      simp only [List.nodup_cons, List.mem_cons, List.not_mem_nil, or_false, not_or, not_false_eq_true, List.nodup_nil, and_true] at hnod
      have hz5 := hb5.size
      simp at hz5
      have hB5 : Below wc.heap.size wc w5 := HB4.out.trans (hb5.mono (by omega))
      have hB7 : Below wc.heap.size wc ((w5.alloc (.cells #[.slice A5 n c5] 22)).alloc (.cells #[.func (.func 78) #[] #[.pointer (some ⟨w5.heap.size, 0, none⟩), .pointer (some ⟨w.heap.size, 0, none⟩), .pointer (some ⟨gW, 0, none⟩), .pointer (some ⟨gT, 0, none⟩), .pointer (some ⟨gS, 0, none⟩), .pointer (some ⟨w4.heap.size, 0, none⟩), .pointer (some ⟨w5.heap.size + 1, 0, none⟩)]] 70)) := (hB5.alloc hB5.size _).alloc (by simp; omega) _
      obtain ⟨X, hX⟩ : ∃ X, X = ((w5.alloc (.cells #[.slice A5 n c5] 22)).alloc (.cells #[.func (.func 78) #[] #[.pointer (some ⟨w5.heap.size, 0, none⟩), .pointer (some ⟨w.heap.size, 0, none⟩), .pointer (some ⟨gW, 0, none⟩), .pointer (some ⟨gT, 0, none⟩), .pointer (some ⟨gS, 0, none⟩), .pointer (some ⟨w4.heap.size, 0, none⟩), .pointer (some ⟨w5.heap.size + 1, 0, none⟩)]] 70)) := ⟨_, rfl⟩
      have hpk : Blk X (w5.heap.size + 1) 70 #[.func (.func 78) #[] #[.pointer (some ⟨w5.heap.size, 0, none⟩), .pointer (some ⟨w.heap.size, 0, none⟩), .pointer (some ⟨gW, 0, none⟩), .pointer (some ⟨gT, 0, none⟩), .pointer (some ⟨gS, 0, none⟩), .pointer (some ⟨w4.heap.size, 0, none⟩), .pointer (some ⟨w5.heap.size + 1, 0, none⟩)]] := by
        have h := Blk.new (w5.alloc (.cells #[.slice A5 n c5] 22)) 70 #[.func (.func 78) #[] #[.pointer (some ⟨w5.heap.size, 0, none⟩), .pointer (some ⟨w.heap.size, 0, none⟩), .pointer (some ⟨gW, 0, none⟩), .pointer (some ⟨gT, 0, none⟩), .pointer (some ⟨gS, 0, none⟩), .pointer (some ⟨w4.heap.size, 0, none⟩), .pointer (some ⟨w5.heap.size + 1, 0, none⟩)]]
        rw [show (w5.alloc (.cells #[.slice A5 n c5] 22)).heap.size = w5.heap.size + 1 by simp] at h
        rw [hX]
        exact h
      have hfl : Blk X w5.heap.size 22 #[.slice A5 n c5] := by rw [hX]; exact (Blk.new w5 _ _).alloc _
      have hlx : Blk X w4.heap.size 22 #[.slice (some ⟨gl, 0, none⟩) nL cL] := by rw [hX]; exact (((Blk.new w4 _ _).below hb5 (by omega)).alloc _).alloc _
      have hll : Own X 0 (some ⟨gl, 0, none⟩) nL cL LE := by rw [hX]; exact ((((HOL.out.mono (Nat.zero_le _)).alloc _).below hb5 (by simp)).alloc _).alloc _
      have hfL : Lst X w.heap.size (.slice A5 n c5) bs := by rw [hX]; exact ((Lst.of (ho5.mono (show w.heap.size ≤ w4.heap.size + 1 by omega))).alloc _).alloc _
      rw [← hX] at hB7
      let G : Pl := ⟨w.heap.size, gW, gT, gS, w4.heap.size, w5.heap.size, w5.heap.size + 1, gw, gt, gl⟩
      have hPW : PW G w X A m c nL cL LE bs ((zer m, zer m), 0) :=
        ⟨HBH.out.below hB7 HBH.out.lt, HR3.out.wins.below hB7 hlt1, HR3.out.ties.below hB7 hlt2, HR3.out.sets.below hB7 hlt3, hlx, ⟨_, hfl, hfL, fun k hk => by
          have := ho5.ownBlock k hk
          simp [Pl.all, G]
          omega⟩, hpk, own_zer (HR3.out.winL.below hB7 hlt4) hm24.2, own_zer (HR3.out.tieL.below hB7 hlt5) hm24.2, hll, HB1.out.trans (hB7.mono hzc)⟩
      have hN : G.all.Nodup := by
        simp only [Pl.all, G, List.nodup_cons, List.mem_cons, List.not_mem_nil, or_false, not_or, not_false_eq_true, List.nodup_nil, and_true]
        and_intros <;> omega
      have hlow : ∀ k ∈ G.all, w.heap.size ≤ k := by
        simp only [Pl.all, G, List.mem_cons, List.not_mem_nil, or_false, forall_eq_or_imp, forall_eq]
        and_intros <;> omega
      rw [hl] at HFW
      have HPK := hide (pickW G w A m c nL cL ts pss LE hR he hm24.1 hm24.2 HNL.out hLl hN hlow (5 - n) bs 0 ((zer m, zer m), 0) X (by omega) (by omega) HFW.out hPW)
      rw [← HSE.out] at HPK
      have HPK : Hid (Calls Try.prog 78 #[.int .i64 0, .pointer (some ⟨w5.heap.size, 0, none⟩), .pointer (some ⟨w.heap.size, 0, none⟩), .pointer (some ⟨gW, 0, none⟩), .pointer (some ⟨gT, 0, none⟩), .pointer (some ⟨gS, 0, none⟩), .pointer (some ⟨w4.heap.size, 0, none⟩), .pointer (some ⟨w5.heap.size + 1, 0, none⟩)] X
        fun e w' => e = .returned (.tuple #[]) ∧ PW ⟨w.heap.size, gW, gT, gS, w4.heap.size, w5.heap.size, w5.heap.size + 1, gw, gt, gl⟩ w w' A m c nL cL LE bs FIN) := HPK
      have hcp : X.cell? ⟨w5.heap.size + 1, 0, none⟩ = some (.func (.func 78) #[] #[.pointer (some ⟨w5.heap.size, 0, none⟩), .pointer (some ⟨w.heap.size, 0, none⟩), .pointer (some ⟨gW, 0, none⟩), .pointer (some ⟨gT, 0, none⟩), .pointer (some ⟨gS, 0, none⟩), .pointer (some ⟨w4.heap.size, 0, none⟩), .pointer (some ⟨w5.heap.size + 1, 0, none⟩)]) := hpk.cell 0
      rw [← hX]
      clear hX
      clear hcb0 hcb1 hcb2 hcb3 hcb4 hcb5 hcH hcb hpk hfl hlx hll hfL hN hlow hPW
      go_upto_region 9 with (go_at_call 78; go_loud (refine HPK.out.mono ?_); rintro e w7 ⟨rfl, hS⟩)
      have hc1 : w7.cell? ⟨gW, 0, none⟩ = some (.slice (some ⟨gw, 0, none⟩) m m) := hS.wins.cell 0
      have hc2 : w7.cell? ⟨gT, 0, none⟩ = some (.slice (some ⟨gt, 0, none⟩) m m) := hS.ties.cell 0
      have hc3 : w7.cell? ⟨gS, 0, none⟩ = some (.int .i64 FIN.2) := hS.sets.cell 0
      have HWL : Hid (Own w7 0 (some ⟨gw, 0, none⟩) m m FIN.1.1) := hS.winL
      have HTI : Hid (Own w7 0 (some ⟨gt, 0, none⟩) m m FIN.1.2) := hS.tieL
      have HLW := hide hS.low
      clear hS HPK hcp
      go_quiet (fail)
      go_wp2
      (try simp only [Exit.inBlock, Exit.then])
      refine bodyPost_ret (results_four rfl _ _ _) rfl ?_
      rw [HSL.out.1, HSL.out.2]
      exact ⟨_, _, _, _, rfl, own_up (HWL.out.drewN _) (by omega), own_up (HTI.out.drewN _) (by omega), .inr (by simp [Value.ownBlock]; omega), bdrewN HLW.out _⟩

end Go.Proofs.Ytlldocdmjeeaaaa.hand
