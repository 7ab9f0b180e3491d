/-
  The best five of five to seven cards, in the implementation: a closure that calls itself. Conditions: those of each theorem.
-/
import Derived.Test.YtlldocdmjeeaaaaBest
import Derived.Test.YtlldocdmjeeaaaaClone
import Derived.Laws.EntriesVeiled
namespace Go.Proofs.Ytlldocdmjeeaaaa.hand
open Go.RowKit
open base mem

section
variable {w : World}
theorem step_fits {ops : Array Oper} {o : Oper} {a : Act} {K : Act → World → Prop} {Q : Exit → Act → World → Prop} {E : Prop} (hgd : o.guard = none) (s x : Operand)
    (ho : o.op = .call { callee := .builtin .append, args := #[s, x], argTypes := #[22, 22] }) (B g k cap : Nat) (xs ys : List Int) (hs : a.eval s = .slice (some ⟨g, 0, none⟩) k cap) (hown : Own w B (some ⟨g, 0, none⟩) k cap xs)
    (A : Addr) (m c : Nat) (hx : a.eval x = .slice (some A) m c) (hR : Rd w w.heap.size (some A) m ys) (hm : 0 < m) (hroom : k + m ≤ cap)
    (h : ∀ w', Own w' B (some ⟨g, 0, none⟩) (k + m) cap (xs ++ ys) → w.grownBy w' (some g) → K (a.put o.dst (.slice (some ⟨g, 0, none⟩) (k + m) cap)) w') :
    if Region.wanted o (yielded ops a.tmps) = true then Oper.wp Try.prog o a w K Q else E := by
  obtain ⟨i0, hi, hz0, hz1, hz2⟩ := info_parts info_int64
  have hw : Region.wanted o (yielded ops a.tmps) = true := by simp [Region.wanted, hgd]
  rw [if_pos hw]
  obtain ⟨b, off, hA, _, hc⟩ := hR.2 hm
  obtain rfl : A = ⟨b, off, none⟩ := Option.some.inj hA
  obtain ⟨w', hrun, r1, r2⟩ := run_append_fits (P := Try.prog) w B 22 o.type 2 i0 1 Try.underlying22 hi hz1 g k cap (ivs xs) hown ⟨b, off, none⟩ m c (ivs ys)
    (by rw [ivs_len, hR.len]; omega) (by
      intro j u hj
      have hjm : j < m := by
        have := (List.getElem?_eq_some_iff.1 hj).1
        rw [ivs_len, hR.len] at this
        exact this
      rw [Go.WideShapes.add_plain, hc j hjm]
      rw [ivs_at _ _ (by rw [hR.len]; exact hjm)] at hj
      exact hj) (ivs_one ys) hroom
  rw [ivs_app] at r1
  unfold Oper.wp execOp
  simp only [ho, resolve, invoke, builtin, Sem.run_bind, Sem.run_pure, Result.andThen_ok, List.map_toArray, List.map_cons, List.map_nil, hs, hx, hrun]
  exact h w' r1 r2
end
theorem Own.chop {w : World} {B n c : Nat} {A : Addr} {xs : List Int} {x : Int} (h : Own w B (some A) (n + 1) c (xs ++ [x])) : Own w B (some A) n c xs := by
  have hl := h.len
  have hn : xs.length = n := by simpa using hl
  obtain ⟨_, h2⟩ := h
  rcases h2 with ⟨h2, _⟩ | ⟨g, cap, cur, hv, hb, hg, hnc, hcm, hcs, hct⟩
  · cases h2
  · injection hv with e1 e2 e3
    subst e3
    refine ⟨by rw [ivs_len, hn, Nat.mul_one], .inr ⟨g, c, cur, by rw [e1], hb, hg, by omega, hcm, hcs, ?_⟩⟩
    have h3 := congrArg (List.take n) hct
    rw [List.take_take, Nat.mul_one, Nat.min_eq_left (by omega)] at h3
    rw [Nat.mul_one, h3]
    unfold ivs
    rw [List.map_append, List.take_append_of_le_length (by rw [List.length_map, hn]; exact Nat.le_refl _), List.take_of_length_le (by rw [List.length_map, hn]; exact Nat.le_refl _)]
/-- memory while the closure picks -/
structure PS (w0 w : World) (A : Option Addr) (n c : Nat) (pre : List Int) (st : List Int × Int) : Prop where
  cards : Blk w w0.heap.size 22 #[.slice A n c]
  best : ∃ v, Blk w (w0.heap.size + 1) 22 #[v] ∧ Lst w (w0.heap.size + 6) v st.1
  val : Blk w (w0.heap.size + 2) 2 #[.int .i64 st.2]
  arr : Own w (w0.heap.size + 3) (some ⟨w0.heap.size + 3, 0, none⟩) pre.length 5 pre
  five : Blk w (w0.heap.size + 4) 22 #[.slice (some ⟨w0.heap.size + 3, 0, none⟩) pre.length 5]
  pick : Blk w (w0.heap.size + 5) 70 #[.func (.func 94) #[] #[.pointer (some ⟨w0.heap.size + 4, 0, none⟩), .pointer (some ⟨w0.heap.size + 2, 0, none⟩), .pointer (some ⟨w0.heap.size + 1, 0, none⟩), .pointer (some ⟨w0.heap.size, 0, none⟩), .pointer (some ⟨w0.heap.size + 5, 0, none⟩)]]
  below : Below w0.heap.size w0 w

theorem Lst.low {w : World} {B B' : Nat} {v : Value} {xs : List Int} (h : Lst w B v xs) (hB : B' ≤ B) : Lst w B' v xs := by
  obtain ⟨A, c, rfl, ho⟩ := h.form
  exact Lst.of (ho.mono hB)
theorem grownBy_set (w : World) (g i : Nat) (v : Value) : w.grownBy (w.setCell ⟨g, i, none⟩ v) (some g) :=
  ⟨rfl, rfl, rfl, by simp, fun k _ hk => heap_setCell_other w ⟨g, i, none⟩ k v (fun e => hk (by rw [e]))⟩
section
variable {w0 w w' w1 : World} {A : Option Addr} {n c : Nat} {pre : List Int} {st : List Int × Int} {x : Int}
theorem PS.size (h : PS w0 w A n c pre st) : w0.heap.size + 5 < w.heap.size := h.pick.lt
theorem PS.kept (h : PS w0 w A n c pre st) (hb : Below w.heap.size w w') : PS w0 w' A n c pre st := by
  have hz := h.size
  obtain ⟨hcards, ⟨v, hbest, hL⟩, hval, harr, hfive, hpick, hbel⟩ := h
  exact ⟨hcards.below hb hcards.lt, ⟨v, hbest.below hb hbest.lt, hL.below hb⟩, hval.below hb hval.lt, harr.below hb (Nat.le_refl _), hfive.below hb hfive.lt, hpick.below hb hpick.lt, hbel.trans (hb.mono (by omega))⟩
theorem PS.drewN (h : PS w0 w A n c pre st) (q : Nat) : PS w0 (w.drewN q) A n c pre st := h.kept (bdrewN (Below.refl _ _) q)
theorem PS.best_ (h : PS w0 w A n c pre st) {l : List Int} {v : Value} {V : Int} (hv : Lst w (w0.heap.size + 6) v l) :
    PS w0 ((w.setCell ⟨w0.heap.size + 1, 0, none⟩ v).setCell ⟨w0.heap.size + 2, 0, none⟩ (.int .i64 V)) A n c pre (l, V) := by
  obtain ⟨hcards, ⟨v0, hbest, hL⟩, hval, harr, hfive, hpick, hbel⟩ := h
  have g1 := grownBy_set w (w0.heap.size + 1) 0 v
  have g2 := grownBy_set (w.setCell ⟨w0.heap.size + 1, 0, none⟩ v) (w0.heap.size + 2) 0 (.int .i64 V)
  refine ⟨(hcards.far (by simp) _).far (by simp) _, ⟨v, ?_, ?_⟩, ?_, ?_, (hfive.far (by simp) _).far (by simp) _, (hpick.far (by simp) _).far (by simp) _, (hbel.setCell (by simp) _).setCell (by simp) _⟩
  · exact (hbest.put 0 v).far (by simp) _
  · have hk1 : Lst (w.setCell ⟨w0.heap.size + 1, 0, none⟩ v) (w0.heap.size + 6) v l := hv.kept g1 (by
      cases hb : v.ownBlock with
      | none => exact .inl rfl
      | some k => exact .inr (fun e => by have h1 := (hv.blk k hb).1; injection e with e; omega))
    exact hk1.kept g2 (by
      cases hb : v.ownBlock with
      | none => exact .inl rfl
      | some k => exact .inr (fun e => by have h1 := (hv.blk k hb).1; injection e with e; omega))
  · exact (hval.far (by simp) _).put 0 _
  · exact (harr.kept g1 (fun k hk => by cases hk; exact .inl (by omega))).kept g2 (fun k hk => by cases hk; exact .inl (by omega))
theorem PS.push (h : PS w0 w A n c pre st) (hg : w.grownBy w1 (some (w0.heap.size + 3))) (ho : Own w1 (w0.heap.size + 3) (some ⟨w0.heap.size + 3, 0, none⟩) (pre.length + 1) 5 (pre ++ [x])) :
    PS w0 (w1.setCell ⟨w0.heap.size + 4, 0, none⟩ (.slice (some ⟨w0.heap.size + 3, 0, none⟩) (pre.length + 1) 5)) A n c (pre ++ [x]) st := by
  have hz := h.size
  obtain ⟨hcards, ⟨v0, hbest, hL⟩, hval, harr, hfive, hpick, hbel⟩ := h
  have hlen : (pre ++ [x]).length = pre.length + 1 := by simp
  have g2 := grownBy_set w1 (w0.heap.size + 4) 0 (.slice (some ⟨w0.heap.size + 3, 0, none⟩) (pre.length + 1) 5)
  have hL1 : Lst w1 (w0.heap.size + 6) v0 st.1 := hL.kept hg (by
    cases hb : v0.ownBlock with
    | none => exact .inl rfl
    | some k => exact .inr (fun e => by have h1 := (hL.blk k hb).1; injection e with e; omega))
  refine ⟨(hcards.grown hg (by simp)).far (by simp) _, ⟨v0, (hbest.grown hg (by simp)).far (by simp) _, ?_⟩, (hval.grown hg (by simp)).far (by simp) _, ?_, ?_, (hpick.grown hg (by simp)).far (by simp) _, (hbel.grown hg (by omega) (fun k hk => by cases hk; omega)).setCell (by simp) _⟩
  · exact hL1.kept g2 (by
      cases hb : v0.ownBlock with
      | none => exact .inl rfl
      | some k => exact .inr (fun e => by have h1 := (hL.blk k hb).1; injection e with e; omega))
  · rw [hlen]
    refine World.ownsRow.kept (h := ho) g2 (.inr (by simp [Value.ownBlock]))
  · rw [hlen]
    exact (hfive.grown hg (by simp)).put 0 _
theorem PS.pop (h : PS w0 w A n c (pre ++ [x]) st) : PS w0 (w.setCell ⟨w0.heap.size + 4, 0, none⟩ (.slice (some ⟨w0.heap.size + 3, 0, none⟩) pre.length 5)) A n c pre st := by
  obtain ⟨hcards, ⟨v0, hbest, hL⟩, hval, harr, hfive, hpick, hbel⟩ := h
  have g2 := grownBy_set w (w0.heap.size + 4) 0 (.slice (some ⟨w0.heap.size + 3, 0, none⟩) pre.length 5)
  rw [show (pre ++ [x]).length = pre.length + 1 by simp] at harr
  have ho := Own.chop harr
  refine ⟨hcards.far (by simp) _, ⟨v0, hbest.far (by simp) _, ?_⟩, hval.far (by simp) _, ?_, hfive.put 0 _, hpick.far (by simp) _, hbel.setCell (by simp) _⟩
  · exact hL.kept g2 (by
      cases hb : v0.ownBlock with
      | none => exact .inl rfl
      | some k => exact .inr (fun e => by have h1 := (hL.blk k hb).1; injection e with e; omega))
  · refine World.ownsRow.kept (h := ho) g2 (.inr (by simp [Value.ownBlock]))
end

set_option maxRecDepth 100000 in
set_option maxHeartbeats 8000000 in
theorem pick_any (w0 : World) (A : Option Addr) (n c : Nat) (xs : List Int) (hR : Rd w0 w0.heap.size A n xs) (hn5 : 5 ≤ n) (hn : n ≤ 1000) :
    ∀ (k : Nat) (pre : List Int) (at_ : Nat) (st : List Int × Int) (w : World), k + pre.length = 5 → at_ ≤ n → Fine (pre ++ xs.drop at_) → Okst st → PS w0 w A n c pre st →
    Calls Try.prog 94 #[.int .i64 (at_ : Int), .pointer (some ⟨w0.heap.size + 4, 0, none⟩), .pointer (some ⟨w0.heap.size + 2, 0, none⟩), .pointer (some ⟨w0.heap.size + 1, 0, none⟩), .pointer (some ⟨w0.heap.size, 0, none⟩), .pointer (some ⟨w0.heap.size + 5, 0, none⟩)] w
      fun e w' => e = .returned (.tuple #[]) ∧ PS w0 w' A n c pre (pk k pre (xs.drop at_) st) := by
  intro k
  induction k with
  | zero =>
    intro pre at_ st w h5 hat hf hok hS
    have hp5 : pre.length = 5 := by omega
    have hS0 := hide hS
    obtain ⟨hcards, ⟨v, hbest, hL⟩, hval, harr, hfive, hpick, hbel⟩ := hS
    rw [hp5] at harr hfive
    have hff := hf.left
    have hvr := valL_range hff.1 hff.2 hp5
    have HVF := hide (valueOf_any _ 5 pre _ w harr.rd (Nat.le_refl _) hff.1 hff.2)
    have hc4 := hfive.cell 0
    have hc2 := hval.cell 0
    have hst : -1 ≤ st.2 ∧ st.2 < 3341637 := by rcases hok with ⟨_, h⟩ | ⟨_, _, _, h1, h2⟩ <;> omega
    rw [pk_zero]
    have HUY := hide (fun (h : st.2 < valL pre) => upd_yes (five := pre) h)
    have HUN := hide (fun (h : ¬ st.2 < valL pre) => upd_no (five := pre) h)
    obtain ⟨V, hV⟩ := ex_eq (valL pre)
    rw [hV] at hvr HVF HUY HUN
    obtain ⟨U, hU⟩ := ex_eq (upd st pre)
    rw [hU] at HUY HUN ⊢
    clear hU hV hf hff
    by_cases hlt : st.2 < V
    · have HU := hide (HUY.out hlt)
      clear HUY HUN
      go_enter Try.func94, Try.ntmps94
      clear hbest hL hval hpick hbel hcards
      go_wp2_with (first | (go_at_call 57; refine HVF.out.mono ?_; rintro e w1 ⟨rfl, hb1⟩; have hS1 := hS0.out.kept hb1; have hc41 := hS1.five.cell 0; have hc21 := hS1.val.cell 0; have HA1 := hide hS1.arr; rw [hp5] at hc41 HA1) | (go_at_call 66; refine (Clone_any _ 5 5 pre w1 HA1.out.rd (by omega) (fun h => by cases h)).mono ?_; rintro e w2 ⟨A2, c2, rfl, ho2, hb2⟩; have hS2 := hS1.kept hb2; have hcb := hS2.best; obtain ⟨vb, hcb, _⟩ := hcb; have hcb0 := hcb.cell 0; have hcv0 := hS2.val.cell 0; have hfb := hcb.frozen 0; have hfv := hS2.val.frozen 0))
      have hz1 := hS1.size
      have hfin := hS2.best_ (V := V) (Lst.of (ho2.mono (show w0.heap.size + 6 ≤ w1.heap.size by omega)))
      refine bodyPost_ret (results_none rfl _ _ _) rfl ?_
      exact ⟨rfl, by rw [HU.out]; exact hfin⟩
    · have HU := hide (HUN.out hlt)
      clear HUY HUN
      clear hbest hL hval hpick hbel hcards
      go_enter Try.func94, Try.ntmps94
      go_wp2_with (go_at_call 57; refine HVF.out.mono ?_; rintro e w1 ⟨rfl, hb1⟩; have hS1 := hS0.out.kept hb1; have hc41 := hS1.five.cell 0; have hc21 := hS1.val.cell 0)
      refine bodyPost_ret (results_none rfl _ _ _) rfl ?_
      exact ⟨rfl, by rw [HU.out]; exact hS1⟩
  | succ k ih =>
    intro pre at_ st w h5 hat hf hok hS
    have hl5 : ((pre.length : Int) == 5) = false := by simp; omega
    have hl5' : (pre.length == 5) = false := by simp; omega
    have HL := hide hR.len
    obtain ⟨FIN, hFIN⟩ := ex_eq (pk (k + 1) pre (xs.drop at_) st)
    rw [hFIN]
    have HF0 := hide hFIN
    have HFI := hide hf
    have HOK := hide hok
    have HIH := hide ih
    have HS0 := hide hS
    have hc4 := hS.five.cell 0
    clear hFIN hf hok hS ih
    go_enter Try.func94, Try.ntmps94
    go_wp2_with fail
    go_loopw [8] (fun s wr => ∃ (i : Nat) (st : List Int × Int), i ≤ n ∧ s = .int .i64 i ∧ PS w0 wr A n c pre st ∧ Hid (Okst st) ∧ Hid (pk (k + 1) pre (xs.drop i) st = FIN) ∧ Hid (Fine (pre ++ xs.drop i))) (fun s _ => n - (intOf s).toNat)
    case atStart => exact ⟨at_, st, hat, rfl, HS0.out, HOK, HF0, HFI⟩
    case round =>
      clear hc4 HS0 HOK HF0 HFI
      obtain ⟨i, st, hi, rfl, hS, hok, hF, hfi⟩ := hrel
      have hc1 := hS.cards.cell 0
      by_cases hlt : i < n
      · have hkx : i < xs.length := by rw [HL.out]; exact hlt
        have hFx := hF.out
        rw [pk_drop _ _ _ _ _ hkx] at hFx
        have HPK := hide (Fine.pick hfi.out hkx)
        have HSK := hide (Fine.skip hfi.out)
        have hpo := pk_ok (xs.drop (i + 1)) k (pre ++ [xs.getD i 0]) st hok.out (by simp; omega) HPK.out
        have HPO := hide hpo.1
        obtain ⟨b, o, rfl, hbB, hc⟩ := (hR.below hS.below).at_ hlt
        have hc4 := hS.five.cell 0
        have hf4 := hS.five.frozen 0
        have HFX := hide hFx
        have HS := hide hS
        have HOKC := hide hok.out
        have hz5 := HS.out.size
        have hz4 : w0.heap.size + 4 < wr.heap.size := by omega
        have hz0 : w0.heap.size < wr.heap.size := by omega
        have hzb : b < wr.heap.size := by omega
        obtain ⟨x, hx⟩ := ex_eq (xs.getD i 0)
        rw [hx] at hc HPK HPO HFX
        clear hkx hFx hpo hx hF hfi hS hok
        go_upto_region 7 with fail
        go_region_law (refine step_fits rfl (.tmp 27) (.tmp 32) rfl (w0.heap.size + 3) (w0.heap.size + 3) pre.length 5 pre [x] rfl ((HS.out.arr.alloc _).drewN 1) ⟨wr.heap.size, 0, none⟩ 1 1 rfl ((rd_one wr x 2).drewN 1) (by omega) (by omega) ?_; intro w2 ho2 hg2; have hfv := ((HS.out.five.alloc (.cells #[.int .i64 x] 2)).drewN 1).grown hg2 (by simp); have hc42 := hfv.cell 0; have hf42 := hfv.frozen 0)
        all_goals
          have hSp := PS.push ((HS.out.kept ((Below.refl _ _).alloc (Nat.le_refl _) (.cells #[.int .i64 x] 2))).drewN 1) hg2 ho2
          have hcp := hSp.pick.cell 0
          have HIC := hide (HIH.out (pre ++ [x]) (i + 1) st _ (by simp; omega) (by omega) HPK.out HOKC.out hSp)
          clear hSp
          go_wp2_with (go_at_call 94; refine HIC.out.mono ?_; rintro e w3 ⟨rfl, hS3⟩; have hc43 := hS3.five.cell 0; have hf43 := hS3.five.frozen 0)
          go_roundw
          case rel => exact ⟨i + 1, _, by omega, by go_num, hS3.pop, HPO, HFX, HSK⟩
          case measure => simp [intOf]; omega
      · have hge : xs.length ≤ i := by rw [HL.out]; omega
        have hFx := hF.out
        rw [pk_over _ _ _ _ _ hge] at hFx
        have HFX := hide hFx
        have HS := hide hS
        have hca : 0 < n := by omega
        clear hFx hF hfi hok hS hge
        go_wp2
        go_end0
        exact ⟨rfl, by rw [← HFX.out]; exact HS.out⟩

theorem PS.start (w : World) (A : Option Addr) (n c : Nat) : PS w ((((((w.alloc (.cells #[.slice A n c] 22)).alloc (.cells #[.slice none 0 0] 22)).alloc (.cells #[.int .i64 (-1)] 2)).alloc (.cells #[.int .i64 0, .int .i64 0, .int .i64 0, .int .i64 0, .int .i64 0] 2)).alloc (.cells #[.slice (some ⟨w.heap.size + 1 + 1 + 1, 0, none⟩) 0 5] 22)).alloc (.cells #[.func (.func 94) #[] #[.pointer (some ⟨w.heap.size + 1 + 1 + 1 + 1, 0, none⟩), .pointer (some ⟨w.heap.size + 1 + 1, 0, none⟩), .pointer (some ⟨w.heap.size + 1, 0, none⟩), .pointer (some ⟨w.heap.size, 0, none⟩), .pointer (some ⟨w.heap.size + 1 + 1 + 1 + 1 + 1, 0, none⟩)]] 70)) A n c [] ([], -1) := by
  have k0 := ((((((show Blk (w.alloc (.cells #[.slice A n c] 22)) (w.heap.size + 0) 22 #[.slice A n c] from by have h := Blk.new w 22 #[.slice A n c]; rwa [show w.heap.size = w.heap.size + 0 by simp] at h).alloc (.cells #[.slice none 0 0] 22)).alloc (.cells #[.int .i64 (-1)] 2)).alloc (.cells #[.int .i64 0, .int .i64 0, .int .i64 0, .int .i64 0, .int .i64 0] 2)).alloc (.cells #[.slice (some ⟨w.heap.size + 1 + 1 + 1, 0, none⟩) 0 5] 22)).alloc (.cells #[.func (.func 94) #[] #[.pointer (some ⟨w.heap.size + 1 + 1 + 1 + 1, 0, none⟩), .pointer (some ⟨w.heap.size + 1 + 1, 0, none⟩), .pointer (some ⟨w.heap.size + 1, 0, none⟩), .pointer (some ⟨w.heap.size, 0, none⟩), .pointer (some ⟨w.heap.size + 1 + 1 + 1 + 1 + 1, 0, none⟩)]] 70))
  have k1 := (((((show Blk ((w.alloc (.cells #[.slice A n c] 22)).alloc (.cells #[.slice none 0 0] 22)) (w.heap.size + 1) 22 #[.slice none 0 0] from by have h := Blk.new (w.alloc (.cells #[.slice A n c] 22)) 22 #[.slice none 0 0]; rwa [show (w.alloc (.cells #[.slice A n c] 22)).heap.size = w.heap.size + 1 by simp] at h).alloc (.cells #[.int .i64 (-1)] 2)).alloc (.cells #[.int .i64 0, .int .i64 0, .int .i64 0, .int .i64 0, .int .i64 0] 2)).alloc (.cells #[.slice (some ⟨w.heap.size + 1 + 1 + 1, 0, none⟩) 0 5] 22)).alloc (.cells #[.func (.func 94) #[] #[.pointer (some ⟨w.heap.size + 1 + 1 + 1 + 1, 0, none⟩), .pointer (some ⟨w.heap.size + 1 + 1, 0, none⟩), .pointer (some ⟨w.heap.size + 1, 0, none⟩), .pointer (some ⟨w.heap.size, 0, none⟩), .pointer (some ⟨w.heap.size + 1 + 1 + 1 + 1 + 1, 0, none⟩)]] 70))
  have k2 := ((((show Blk (((w.alloc (.cells #[.slice A n c] 22)).alloc (.cells #[.slice none 0 0] 22)).alloc (.cells #[.int .i64 (-1)] 2)) (w.heap.size + 2) 2 #[.int .i64 (-1)] from by have h := Blk.new ((w.alloc (.cells #[.slice A n c] 22)).alloc (.cells #[.slice none 0 0] 22)) 2 #[.int .i64 (-1)]; rwa [show ((w.alloc (.cells #[.slice A n c] 22)).alloc (.cells #[.slice none 0 0] 22)).heap.size = w.heap.size + 2 by simp] at h).alloc (.cells #[.int .i64 0, .int .i64 0, .int .i64 0, .int .i64 0, .int .i64 0] 2)).alloc (.cells #[.slice (some ⟨w.heap.size + 1 + 1 + 1, 0, none⟩) 0 5] 22)).alloc (.cells #[.func (.func 94) #[] #[.pointer (some ⟨w.heap.size + 1 + 1 + 1 + 1, 0, none⟩), .pointer (some ⟨w.heap.size + 1 + 1, 0, none⟩), .pointer (some ⟨w.heap.size + 1, 0, none⟩), .pointer (some ⟨w.heap.size, 0, none⟩), .pointer (some ⟨w.heap.size + 1 + 1 + 1 + 1 + 1, 0, none⟩)]] 70))
  have k3 := (((show Blk ((((w.alloc (.cells #[.slice A n c] 22)).alloc (.cells #[.slice none 0 0] 22)).alloc (.cells #[.int .i64 (-1)] 2)).alloc (.cells #[.int .i64 0, .int .i64 0, .int .i64 0, .int .i64 0, .int .i64 0] 2)) (w.heap.size + 3) 2 #[.int .i64 0, .int .i64 0, .int .i64 0, .int .i64 0, .int .i64 0] from by have h := Blk.new (((w.alloc (.cells #[.slice A n c] 22)).alloc (.cells #[.slice none 0 0] 22)).alloc (.cells #[.int .i64 (-1)] 2)) 2 #[.int .i64 0, .int .i64 0, .int .i64 0, .int .i64 0, .int .i64 0]; rwa [show (((w.alloc (.cells #[.slice A n c] 22)).alloc (.cells #[.slice none 0 0] 22)).alloc (.cells #[.int .i64 (-1)] 2)).heap.size = w.heap.size + 3 by simp] at h).alloc (.cells #[.slice (some ⟨w.heap.size + 1 + 1 + 1, 0, none⟩) 0 5] 22)).alloc (.cells #[.func (.func 94) #[] #[.pointer (some ⟨w.heap.size + 1 + 1 + 1 + 1, 0, none⟩), .pointer (some ⟨w.heap.size + 1 + 1, 0, none⟩), .pointer (some ⟨w.heap.size + 1, 0, none⟩), .pointer (some ⟨w.heap.size, 0, none⟩), .pointer (some ⟨w.heap.size + 1 + 1 + 1 + 1 + 1, 0, none⟩)]] 70))
  have k4 := ((show Blk (((((w.alloc (.cells #[.slice A n c] 22)).alloc (.cells #[.slice none 0 0] 22)).alloc (.cells #[.int .i64 (-1)] 2)).alloc (.cells #[.int .i64 0, .int .i64 0, .int .i64 0, .int .i64 0, .int .i64 0] 2)).alloc (.cells #[.slice (some ⟨w.heap.size + 1 + 1 + 1, 0, none⟩) 0 5] 22)) (w.heap.size + 4) 22 #[.slice (some ⟨w.heap.size + 1 + 1 + 1, 0, none⟩) 0 5] from by have h := Blk.new ((((w.alloc (.cells #[.slice A n c] 22)).alloc (.cells #[.slice none 0 0] 22)).alloc (.cells #[.int .i64 (-1)] 2)).alloc (.cells #[.int .i64 0, .int .i64 0, .int .i64 0, .int .i64 0, .int .i64 0] 2)) 22 #[.slice (some ⟨w.heap.size + 1 + 1 + 1, 0, none⟩) 0 5]; rwa [show ((((w.alloc (.cells #[.slice A n c] 22)).alloc (.cells #[.slice none 0 0] 22)).alloc (.cells #[.int .i64 (-1)] 2)).alloc (.cells #[.int .i64 0, .int .i64 0, .int .i64 0, .int .i64 0, .int .i64 0] 2)).heap.size = w.heap.size + 4 by simp] at h).alloc (.cells #[.func (.func 94) #[] #[.pointer (some ⟨w.heap.size + 1 + 1 + 1 + 1, 0, none⟩), .pointer (some ⟨w.heap.size + 1 + 1, 0, none⟩), .pointer (some ⟨w.heap.size + 1, 0, none⟩), .pointer (some ⟨w.heap.size, 0, none⟩), .pointer (some ⟨w.heap.size + 1 + 1 + 1 + 1 + 1, 0, none⟩)]] 70))
  have k5 := (show Blk ((((((w.alloc (.cells #[.slice A n c] 22)).alloc (.cells #[.slice none 0 0] 22)).alloc (.cells #[.int .i64 (-1)] 2)).alloc (.cells #[.int .i64 0, .int .i64 0, .int .i64 0, .int .i64 0, .int .i64 0] 2)).alloc (.cells #[.slice (some ⟨w.heap.size + 1 + 1 + 1, 0, none⟩) 0 5] 22)).alloc (.cells #[.func (.func 94) #[] #[.pointer (some ⟨w.heap.size + 1 + 1 + 1 + 1, 0, none⟩), .pointer (some ⟨w.heap.size + 1 + 1, 0, none⟩), .pointer (some ⟨w.heap.size + 1, 0, none⟩), .pointer (some ⟨w.heap.size, 0, none⟩), .pointer (some ⟨w.heap.size + 1 + 1 + 1 + 1 + 1, 0, none⟩)]] 70)) (w.heap.size + 5) 70 #[.func (.func 94) #[] #[.pointer (some ⟨w.heap.size + 1 + 1 + 1 + 1, 0, none⟩), .pointer (some ⟨w.heap.size + 1 + 1, 0, none⟩), .pointer (some ⟨w.heap.size + 1, 0, none⟩), .pointer (some ⟨w.heap.size, 0, none⟩), .pointer (some ⟨w.heap.size + 1 + 1 + 1 + 1 + 1, 0, none⟩)]] from by have h := Blk.new (((((w.alloc (.cells #[.slice A n c] 22)).alloc (.cells #[.slice none 0 0] 22)).alloc (.cells #[.int .i64 (-1)] 2)).alloc (.cells #[.int .i64 0, .int .i64 0, .int .i64 0, .int .i64 0, .int .i64 0] 2)).alloc (.cells #[.slice (some ⟨w.heap.size + 1 + 1 + 1, 0, none⟩) 0 5] 22)) 70 #[.func (.func 94) #[] #[.pointer (some ⟨w.heap.size + 1 + 1 + 1 + 1, 0, none⟩), .pointer (some ⟨w.heap.size + 1 + 1, 0, none⟩), .pointer (some ⟨w.heap.size + 1, 0, none⟩), .pointer (some ⟨w.heap.size, 0, none⟩), .pointer (some ⟨w.heap.size + 1 + 1 + 1 + 1 + 1, 0, none⟩)]]; rwa [show (((((w.alloc (.cells #[.slice A n c] 22)).alloc (.cells #[.slice none 0 0] 22)).alloc (.cells #[.int .i64 (-1)] 2)).alloc (.cells #[.int .i64 0, .int .i64 0, .int .i64 0, .int .i64 0, .int .i64 0] 2)).alloc (.cells #[.slice (some ⟨w.heap.size + 1 + 1 + 1, 0, none⟩) 0 5] 22)).heap.size = w.heap.size + 5 by simp] at h)
  refine ⟨k0, ⟨_, k1, Lst.nil _ _⟩, k2, ?_, k4, k5, ?_⟩
  · exact ⟨rfl, .inr ⟨w.heap.size + 3, 5, _, rfl, Nat.le_refl _, k3, by simp, by simp [maxLen], rfl, rfl⟩⟩
  · exact (((((((Below.refl w.heap.size w).alloc (by simp <;> omega) (.cells #[.slice A n c] 22)).alloc (by simp <;> omega) (.cells #[.slice none 0 0] 22)).alloc (by simp <;> omega) (.cells #[.int .i64 (-1)] 2)).alloc (by simp <;> omega) (.cells #[.int .i64 0, .int .i64 0, .int .i64 0, .int .i64 0, .int .i64 0] 2)).alloc (by simp <;> omega) (.cells #[.slice (some ⟨w.heap.size + 1 + 1 + 1, 0, none⟩) 0 5] 22)).alloc (by simp <;> omega) (.cells #[.func (.func 94) #[] #[.pointer (some ⟨w.heap.size + 1 + 1 + 1 + 1, 0, none⟩), .pointer (some ⟨w.heap.size + 1 + 1, 0, none⟩), .pointer (some ⟨w.heap.size + 1, 0, none⟩), .pointer (some ⟨w.heap.size, 0, none⟩), .pointer (some ⟨w.heap.size + 1 + 1 + 1 + 1 + 1, 0, none⟩)]] 70))

set_option maxRecDepth 100000 in
set_option maxHeartbeats 4000000 in
theorem bestFive_any (A : Option Addr) (n c : Nat) (xs : List Int) (w : World) (hR : Rd w w.heap.size A n xs) (hn5 : 5 ≤ n) (hn : n ≤ 1000) (hf : Fine xs) :
    Calls Try.prog 60 #[.slice A n c] w fun e w' => ∃ v, e = .returned (.tuple #[v, .int .i64 (bestL xs).2]) ∧ Lst w' w.heap.size v (bestL xs).1 ∧ Below w.heap.size w w' := by
  have HP := hide (pick_any w A n c xs hR hn5 hn)
  have HFI : Hid (Fine ([] ++ xs.drop 0)) := hf
  have HOK : Hid (Okst ([], -1)) := .inl ⟨rfl, rfl⟩
  have HBE := hide (show pk 5 [] (xs.drop 0) ([], -1) = bestL xs from rfl)
  obtain ⟨FIN, hFIN⟩ := ex_eq (bestL xs)
  rw [hFIN] at HBE ⊢
  have hmf : ∀ (fn : Fn) (first cap : Array Value) (w : World), (Instr.makeFunc fn first cap).run Try.prog w = .ok (.func fn first cap) w := fun _ _ _ _ => rfl
  have hmk : ∀ w : World, (Instr.makeSlice 22 (.int .i64 0) (.int .i64 5)).run Try.prog w = .ok (.slice (some ⟨w.heap.size, 0, none⟩) 0 5) (w.alloc (.cells #[.int .i64 0, .int .i64 0, .int .i64 0, .int .i64 0, .int .i64 0] 2)) := fun _ => by kernel_rfl
  clear hFIN hR hf
  go_enter Try.func60, Try.ntmps60
  go_upto_region 5 with fail
  have hS0 := PS.start w A n c
  have hcp : (((((((w.alloc (.cells #[.slice A n c] 22)).alloc (.cells #[.slice none 0 0] 22)).alloc (.cells #[.int .i64 (-1)] 2)).alloc (.cells #[.int .i64 0, .int .i64 0, .int .i64 0, .int .i64 0, .int .i64 0] 2)).alloc (.cells #[.slice (some ⟨w.heap.size + 1 + 1 + 1, 0, none⟩) 0 5] 22)).alloc (.cells #[.func (.func 94) #[] #[.pointer (some ⟨w.heap.size + 1 + 1 + 1 + 1, 0, none⟩), .pointer (some ⟨w.heap.size + 1 + 1, 0, none⟩), .pointer (some ⟨w.heap.size + 1, 0, none⟩), .pointer (some ⟨w.heap.size, 0, none⟩), .pointer (some ⟨w.heap.size + 1 + 1 + 1 + 1 + 1, 0, none⟩)]] 70))).cell? ⟨w.heap.size + 1 + 1 + 1 + 1 + 1, 0, none⟩ = some (.func (.func 94) #[] #[.pointer (some ⟨w.heap.size + 1 + 1 + 1 + 1, 0, none⟩), .pointer (some ⟨w.heap.size + 1 + 1, 0, none⟩), .pointer (some ⟨w.heap.size + 1, 0, none⟩), .pointer (some ⟨w.heap.size, 0, none⟩), .pointer (some ⟨w.heap.size + 1 + 1 + 1 + 1 + 1, 0, none⟩)]) := hS0.pick.cell 0
  have HC := hide (HP.out 5 [] 0 ([], -1) _ rfl (by omega) HFI.out HOK.out hS0)
  rw [HBE.out] at HC
  clear hS0
  go_upto_region 6 with (go_at_call 94; refine HC.out.mono ?_; rintro e w2 ⟨rfl, hS2⟩)
  obtain ⟨v, hvb, hvL⟩ := hS2.best
  have hc1 : w2.cell? ⟨w.heap.size + 1, 0, none⟩ = some v := hvb.cell 0
  have hc2 : w2.cell? ⟨w.heap.size + 1 + 1, 0, none⟩ = some (.int .i64 FIN.2) := hS2.val.cell 0
  obtain ⟨A', c', rfl, ho⟩ := hvL.form
  have HLF := hide (hvL.drewN)
  have H60 := hide hS2.below
  clear hcp hS2 hvb hvL ho HC
  go_quiet (fail)
  go_wp2
  go_ret2
  exact ⟨_, rfl, Lst.low (HLF.out _) (by omega), bdrewN H60.out _⟩

def bfOut (xs : List Int) : List Int := if handB xs 5 7 = true then (bestL xs).1 else []
def bfVal (xs : List Int) : Int := if handB xs 5 7 = true then (bestL xs).2 else 0
theorem bfOut_len (xs : List Int) : (bfOut xs).length ≤ 1048576 := by
  unfold bfOut
  cases hh : handB xs 5 7
  · simp
  · have h5 := hand_len hh
    have := (best_ok (cards_nodup (hand_cards hh)) h5.1).1
    rw [if_pos rfl, this]
    omega
theorem spec_BestFive (A : Option Addr) (n c : Nat) (xs : List Int) (w : World) (hR : Rd w w.heap.size A n xs) (hn : n ≤ 1048576) (hnc : n ≤ c) :
    Calls Try.prog 24 #[.slice A n c] w fun e w' => ∃ A' c', e = .returned (.tuple #[.slice A' (bfOut xs).length c', .int .i64 (bfVal xs), .bool (handB xs 5 7)]) ∧ Own w' w.heap.size A' (bfOut xs).length c' (bfOut xs) ∧ Below w.heap.size w w' := by
  have H := hide (l03Big_any A n c xs w.heap.size w hR hn hnc)
  unfold bfOut bfVal
  cases hh : handB xs 5 7
  · rw [hh] at H
    clear hR
    go_enter Try.func24, Try.ntmps24
    go_wp2_with fail
    refine H.out.mono ?_
    rintro e w' ⟨rfl, q, rfl⟩
    go_wp2
    go_ret3
    exact ⟨none, 0, rfl, Own.nil _ _, bdrewN (Below.refl _ _) _⟩
  · have h5 : 5 ≤ n ∧ n ≤ 7 := by have := hand_len hh; rw [hR.len] at this; omega
    obtain ⟨h5, h7⟩ := h5
    have hfi : Fine xs := cards_nodup (hand_cards hh)
    have HLK := hide (fun q => l03Best_any A n c xs w.heap.size (w.drewN q) (hR.drewN q) (Nat.le_refl _) h5 (by omega) hfi)
    rw [hh] at H
    rw [if_pos rfl, if_pos rfl]
    generalize bestL xs = K at *
    clear hR hfi hh
    go_enter Try.func24, Try.ntmps24
    go_wp2_with (first | (go_at_call 58; refine H.out.mono ?_; rintro e w' ⟨rfl, q, rfl⟩) | (go_at_call 59; refine (HLK.out q).mono ?_; rintro e w2 ⟨v, rfl, hL, hb2⟩))
    obtain ⟨A', c', rfl, ho⟩ := hL.form
    clear hL
    go_wp2
    go_ret3
    exact ⟨A', c', rfl, ho, (bdrewN (Below.refl _ _) _).trans hb2⟩

theorem impl_BestFive (A : Option Addr) (n c : Nat) (xs : List Int) (w : World) (hR : Rd w w.heap.size A n xs) (hn : n ≤ 1048576) (hnc : n ≤ c) :
    Calls Try.prog 25 #[.slice A n c] w fun e w' => ∃ A' c', e = .returned (.tuple #[.slice A' (bfOut xs).length c', .int .i64 (bfVal xs), .bool (handB xs 5 7)]) ∧ Own w' w.heap.size A' (bfOut xs).length c' (bfOut xs) ∧ Below w.heap.size w w' := by
  have H := hide (isHand_any A n c xs 5 7 w.heap.size w hR hn hnc (by omega) (by omega))
  unfold bfOut bfVal
  cases hh : handB xs 5 7
  · rw [hh] at H
    clear hR
    go_enter Try.func25, Try.ntmps25
    go_wp2_with fail
    refine H.out.mono ?_
    rintro e w' ⟨rfl, rfl⟩
    go_wp2
    go_ret3
    exact ⟨none, 0, rfl, Own.nil _ _, Below.refl _ _⟩
  · have h5 : 5 ≤ n ∧ n ≤ 7 := by have := hand_len hh; rw [hR.len] at this; omega
    obtain ⟨h5, h7⟩ := h5
    have hfi : Fine xs := cards_nodup (hand_cards hh)
    have HLK := hide (fun q => bestFive_any A n c xs (w.drewN q) (hR.drewN q) h5 (by omega) hfi)
    rw [hh] at H
    rw [if_pos rfl, if_pos rfl]
    generalize bestL xs = K at *
    clear hR hfi hh
    go_enter Try.func25, Try.ntmps25
    go_wp2_with (first | (go_at_call 53; refine H.out.mono ?_; rintro e w' ⟨rfl, rfl⟩) | (go_at_call 60; refine (HLK.out 0).mono ?_; rintro e w2 ⟨v, rfl, hL, hb2⟩))
    obtain ⟨A', c', rfl, ho⟩ := hL.form
    clear hL
    go_wp2
    go_ret3
    exact ⟨A', c', rfl, ho, hb2⟩

end Go.Proofs.Ytlldocdmjeeaaaa.hand
