/-
  The reference's cycles of a deck, walked. Conditions: those of each theorem.
-/
import Derived.Test.YtfncmgaeecjacaaCyc
import Derived.Test.YtfncmgaeecjacaaMemB
namespace Go.Proofs.Ytfncmgaeecjacaa.deck
open Go.RowKit
open base mem

theorem set2_own {w : World} {B g n c : Nat} {xs : List Int} (h : Own w B (some ⟨g, 0, none⟩) n c xs) (i k : Nat) (a b : Int) (_hB : B ≤ g) :
    Own ((w.setCell ⟨g, i, none⟩ (.int .i64 a)).setCell ⟨g, k, none⟩ (.int .i64 b)) B (some ⟨g, 0, none⟩) n c ((xs.set i a).set k b) ∧
      w.grownBy ((w.setCell ⟨g, i, none⟩ (.int .i64 a)).setCell ⟨g, k, none⟩ (.int .i64 b)) (some g) := by
  have h0 := World.ownsRow.stored (h := h) i (.int .i64 a)
  have h1 := h0.1
  have h2 := World.ownsRow.stored (h := h1) k (.int .i64 b)
  have h3 := h2.1
  rw [ivs_set, ivs_set] at h3
  exact ⟨h3, grown_trans h0.2 ⟨h2.2.os, h2.2.tape, h2.2.output, h2.2.size, h2.2.block⟩⟩
theorem ownB_keep {w w' : World} {B gs n : Nat} {S : List Bool} (h : OwnB w B (some ⟨gs, 0, none⟩) n n S) {row : Option Nat} (hg : w.grownBy w' row) (hr : ∀ k, row = some k → k ≠ gs) : OwnB w' B (some ⟨gs, 0, none⟩) n n S :=
  World.ownsRow.kept h hg (.inr fun e => hr gs e.symm rfl)

set_option maxHeartbeats 8000000 in
theorem l02Cycles_any (A : Option Addr) (n c : Nat) (xs : List Int) (w : World) (hR00 : Rd w w.heap.size A n xs) (hn : 1 ≤ n) (hn2 : n ≤ 52) (hord : ordB xs = true) :
    Calls Try.prog 75 #[.slice A n c] w fun e w' => ∃ A2 c2, e = .returned (.slice A2 (cycL xs).length c2) ∧ Own w' w.heap.size A2 (cycL xs).length c2 (cycL xs) ∧ Below w.heap.size w w' := by
  obtain ⟨i0, hi, hz0, hz1, hz2⟩ := info_parts info_bool
  have hz2' : i0.bytes * n ≤ 281474976710656 := by rw [hz2]; omega
  have HX := hide hR00.len
  have HO := hide hord
  have HC := hide (show cycL xs = srt (stC xs n n).2 by unfold cycL; rw [hR00.len])
  obtain ⟨OUT, hOUT⟩ := ex_eq (cycL xs)
  rw [hOUT] at HC ⊢
  clear hz2 hord hOUT
  go_enter Try.func75, Try.ntmps75
  go_wp2_with (at_make; refine wpList_make_full _ rfl (.tmp 11) (.tmp 11) 23 rfl w.heap.size 4 i0 (.bool false) 1 Try.underlying23 hi hz0 hz1 .i64 .i64 _ _ n rfl rfl rfl rfl hz2' (by unfold maxLen; omega) (Nat.le_refl _) ?_; intro w1 hown hgr)
  have hb1 : Below w.heap.size w w1 := (Below.refl _ _).grown hgr (Nat.le_refl _) (fun _ h => by cases h)
  have hown1 : OwnB w1 w.heap.size (some ⟨w.heap.size, 0, none⟩) n n (stC xs n 0).1 := by
    unfold OwnB
    simpa [Value.cells, toList_madeCells_one, bvs, stC] using hown
  have hsz : w.heap.size + 1 ≤ w1.heap.size := (hown1.ownBlock _ rfl).2
  have hR0 := hR00.below hb1
  clear hown hgr hz2' hi hz0 hz1 hR00
  obtain ⟨g, hg⟩ := ex_eq w.heap.size
  have HG := hide hg
  rw [hg] at hb1 hown1 hR0 hsz ⊢
  clear hg
  go_loopw [4, 5, 6, 7, 8, 9] (fun v ii _ _ _ _ wr => ∃ i : Nat, i ≤ n ∧ ii = .int .i64 i ∧ OwnB wr g (some ⟨g, 0, none⟩) n n (stC xs n i).1 ∧ Lst wr (g + 1) v (srt (stC xs n i).2) ∧ Below g w1 wr) (fun _ ii _ _ _ _ _ => n - (intOf ii).toNat)
  case atStart => exact ⟨0, Nat.zero_le _, rfl, World.ownsRow.alloc hown1 _, by have := Lst.new w1 hsz; simpa [stC, srt] using this, (Below.refl _ _).alloc (by omega) _⟩
  case round =>
    obtain ⟨i, hi, rfl, hseen, hown, hbo⟩ := hrel
    obtain ⟨wo, rfl⟩ : ∃ wo : World, wo = wr := ⟨_, rfl⟩
    have hgo : g ≤ wo.heap.size := by have := hbo.size; omega
    by_cases hlt : i < n
    · obtain ⟨R, hRe⟩ := ex_eq (cycR xs (n + 1) (stC xs n i).1 i 0)
      have HR := hide hRe
      clear hRe
      go_wp2
      go_loopw [6, 7] (fun lg kk wi => ∃ (S : List Bool) (q l f : Nat), lg = .int .i64 l ∧ kk = .int .i64 q ∧ q < n ∧ OwnB wi g (some ⟨g, 0, none⟩) n n S ∧ Lst wi (g + 1) u4 (srt (stC xs n i).2) ∧ Below g wo wi ∧ Hid (cycR xs f S q l = R) ∧ Hid (S.count false + 1 ≤ f) ∧ Hid (l + S.count false ≤ n)) (fun lg _ _ => n - (intOf lg).toNat)
      case atStart => exact ⟨(stC xs n i).1, i, 0, n + 1, rfl, rfl, hlt, hseen, hown, Below.refl _ _, HR.out, hide (by have := List.count_le_length (a := false) (l := (stC xs n i).1); rw [stC_len1] at this; omega), hide (by have := List.count_le_length (a := false) (l := (stC xs n i).1); rw [stC_len1] at this; omega)⟩
      case round =>
        obtain ⟨S, q, l, f, rfl, rfl, hq, hseen2, hown2, hbi, hRc, hfc, hlc⟩ := hrel
        obtain ⟨wi, rfl⟩ : ∃ wi : World, wi = wr := ⟨_, rfl⟩
        have hgi : g ≤ wi.heap.size := Nat.le_trans hgo hbi.size
        have hSl := hseen2.len
        have hc1 := World.ownsRow.cellAt (h := hseen2) q (by omega)
        rw [bvs_at _ _ (by rw [hSl]; exact hq)] at hc1
        have hf1 := World.ownsRow.frozenAt (h := hseen2) q
        have hst := World.ownsRow.stored (h := hseen2) q (.bool true)
        rw [bvs_set] at hst
        obtain ⟨y, hy⟩ := ex_eq (S.getD q false)
        rw [hy] at hc1
        cases y
        · obtain ⟨j, hj, hjx⟩ := deck_card HO.out (show q < xs.length by rw [HX.out]; exact hq)
          have hjn : j < n := by rw [← HX.out]; exact hjx
          obtain ⟨b, o, rfl, hbB, hc⟩ := (hR0.below (hbo.trans hbi)).at_ hq
          rw [hj] at hc
          have hcm := count_mark (by rw [hSl]; exact hq) hy
          have hl2 : l + 1 ≤ n := by have := hlc.out; omega
          have HST := hide hst
          have hbw : b ≠ g := by omega
          have HBW : b < wi.heap.size := by omega
          have hc2 : (wi.setCell ⟨g, q, none⟩ (.bool true)).cell? ⟨b, o + q, none⟩ = some (.int .i64 j) := by
            rw [World.cell?_setCell_other _ _ _ _ (by intro e; injection e with e; exact hbw e.symm)]; exact hc
          have HNX := hide (show cycR xs (f - 1) (S.set q true) j (l + 1) = R by
            have h1 := hRc.out
            have h2 := hfc.out
            obtain ⟨f', rfl⟩ : ∃ f', f = f' + 1 := ⟨f - 1, by omega⟩
            rw [cycR_step hy, hj] at h1
            exact h1)
          have HF2 := hide (show (S.set q true).count false + 1 ≤ f - 1 by have := hfc.out; omega)
          have HL2 := hide (show l + 1 + (S.set q true).count false ≤ n by have := hlc.out; omega)
          have HOW := hide (Lst.kept hown2 hst.2 (.inr (fun e => by have := (hown2.blk g e).1; omega)))
          have HBB := hide (hbi.grown hst.2 hgi (fun k hk => by cases hk; exact Nat.le_refl _))
          clear hst hseen2 hown2 hj hy hcm hSl
          go_wp2
          go_roundw
          case rel => exact ⟨S.set q true, j, l + 1, f - 1, by go_num, rfl, hjn, HST.out.1, HOW.out, HBB.out, HNX.out, HF2.out, HL2.out⟩
          case measure => simp [intOf]; omega
        · have hRR := hRc.out
          rw [cycR_stop hy] at hRR
          have hln : l ≤ n := by have := hlc.out; omega
          clear hst hy hSl hRc hfc hlc hf1
          subst hRR
          by_cases hl0 : l = 0
          · subst hl0
            have HS1 := hide (show (stC xs n (i + 1)).2 = (stC xs n i).2 by rw [stC]; simp only; rw [HR.out]; rfl)
            have HS2 := hide (show (stC xs n (i + 1)).1 = S by rw [stC]; simp only; rw [HR.out])
            clear hR0
            go_wp2
            go_roundw
            case rel => exact ⟨i + 1, by omega, by go_num, by rw [HS2.out]; exact hseen2, by rw [HS1.out]; exact hown2, hbo.trans hbi⟩
            case measure => simp [intOf]; omega
          · have HS1 := hide (show (stC xs n (i + 1)).2 = (stC xs n i).2 ++ [(l : Int)] by rw [stC]; simp only; rw [HR.out]; rw [if_neg hl0])
            have HS2 := hide (show (stC xs n (i + 1)).1 = S by rw [stC]; simp only; rw [HR.out])
            have hul : (srt (stC xs n i).2).length ≤ i := by rw [srt_len]; exact stC_len2 xs n i
            have hl1 : ¬ (l : Int) = 0 := by omega
            have hbeq : ((l : Int) == 0) = false := by simp; omega
            obtain ⟨U, hU⟩ := ex_eq (stC xs n i).2
            rw [hU] at hown2 HS1 hul
            clear hU hR0
            go_wp2_with (at_builtin; refine wpList_app rfl (.tmp 37) (.tmp 39) rfl (g + 1) _ (srt U) [(l : Int)] rfl (hown2.alloc _) (some ⟨wi.heap.size, 0, none⟩) 1 1 rfl (rd_one wi (l : Int) 2) (fun h => by cases h) (by omega) (by simp; omega) ?_; intro v4 w4 ho4 hg4 hbk4; obtain ⟨A4, c4, rfl, ho4'⟩ := ho4.formn (n := (srt U).length + 1) (by simp); obtain ⟨gA, rfl, hBA, hAs⟩ := ho4'.form (by omega))
            have hb4 : Below g wi w4 := ((Below.refl _ _).alloc hgi _).trans (((hown2.alloc _).grown hg4 (by have := hseen2.ownBlock g rfl; simp; omega)).mono (by omega))
            have hs4 : OwnB w4 g (some ⟨g, 0, none⟩) n n S := ownB_keep (World.ownsRow.alloc hseen2 _) hg4 (fun k hk => by have := (hown2.blk k hk).1; omega)
            have ho5 : Own w4 (g + 1) (some ⟨gA, 0, none⟩) ((srt U).length + 1) c4 (midL (srt U) (srt U).length l) := by rw [midL_end]; exact ho4'
            obtain ⟨m, hm⟩ := ex_eq (srt U).length
            have HM := hide hm
            rw [hm] at ho5 hul ⊢
            clear hg4 ho4 ho4' hbk4 hown2 hseen2 hm
            go_wp2
            go_loopw [8, 9] (fun kk _ w5 => ∃ k : Nat, k ≤ m ∧ kk = .int .i64 k ∧ Own w5 (g + 1) (some ⟨gA, 0, none⟩) (m + 1) c4 (midL (srt U) k l) ∧ OwnB w5 g (some ⟨g, 0, none⟩) n n S ∧ Below g w4 w5 ∧ Hid (∀ j, k ≤ j → j < (srt U).length → (l : Int) < (srt U).getD j 0)) (fun kk _ _ => (intOf kk).toNat)
            case atStart => exact ⟨m, Nat.le_refl _, rfl, ho5, hs4, Below.refl _ _, fun j h1 h2 => by have := HM.out; omega⟩
            case round =>
              obtain ⟨k, hk, rfl, ho6, hs6, hb6, hgt⟩ := hrel
              obtain ⟨w5, rfl⟩ : ∃ w5 : World, w5 = wr := ⟨_, rfl⟩
              have hg6 : g ≤ w5.heap.size := by have := hb4.size; have := hb6.size; omega
              have HFIN := hide (show (k = 0 ∨ (srt U).getD (k - 1) 0 ≤ l) → midL (srt U) k l = srt (U ++ [(l : Int)]) from fun h => midL_srt (by rw [HM.out]; exact hk) hgt.out h)
              have HBB := hide (hbo.trans (hbi.trans (hb4.trans hb6)))
              by_cases hk0 : k = 0
              · have HF := hide (HFIN.out (.inl hk0))
                subst hk0
                have hz0 : decide ((0 : Int) < ((0 : Nat) : Int)) = false := by simp
                go_wp2
                go_quiet (fail)
                go_wp2
                go_roundw
                case rel => exact ⟨i + 1, by omega, by go_num, by rw [HS2.out]; exact hs6.drewN _, by rw [HS1.out, ← HF.out]; exact Lst.of (ho6.drewN _), bdrewN HBB.out _⟩
                case measure => simp [intOf]; omega
              · obtain ⟨k', rfl⟩ : ∃ k', k = k' + 1 := ⟨k - 1, by omega⟩
                have hml : (midL (srt U) (k' + 1) l).length = m + 1 := by rw [midL_len, HM.out]
                have hc1 := World.ownsRow.cellAt (h := ho6) (k' + 1) (by omega)
                rw [ivs_at _ _ (by omega), midL_at _ _ _ (by rw [HM.out]; exact hk)] at hc1
                have hc2 := World.ownsRow.cellAt (h := ho6) k' (by omega)
                rw [ivs_at _ _ (by omega), midL_lo _ _ _ (Nat.lt_succ_self k') (by rw [HM.out]; exact hk)] at hc2
                have hf1 := World.ownsRow.frozenAt (h := ho6) (k' + 1)
                have hf2 := World.ownsRow.frozenAt (h := ho6) k'
                have hdn := midL_down (srt U) k' l (by rw [HM.out]; omega)
                obtain ⟨y, hy⟩ := ex_eq ((srt U).getD k' 0)
                rw [hy] at hc2 hdn
                have HDN := hide hdn
                have HGA := hide (show g + 1 ≤ gA by omega)
                have HO6 := hide ho6
                have b1 : (0 : Int) ≤ (k' : Int) := by omega
                have b2 : (k' : Int) + 1 < ((m + 1 : Nat) : Int) := by omega
                have b3 : (k' : Int) < ((m + 1 : Nat) : Int) := by omega
                have hmm : m ≤ 100 := by omega
                have hne : ¬ k' + 1 = k' := by omega
                have hne2 : ¬ k' = k' + 1 := by omega
                have hz0 : decide ((0 : Int) < (k' : Int) + 1) = true := decide_eq_true (by omega)
                by_cases hxy : (l : Int) < y
                · have HGT := hide (show ∀ j, k' ≤ j → j < (srt U).length → (l : Int) < (srt U).getD j 0 from fun j h1 h2 => by
                    rcases Nat.lt_or_ge k' j with h | h
                    · exact hgt.out j h h2
                    · obtain rfl : j = k' := by omega
                      rw [hy]; exact hxy)
                  clear hml hdn hy ho6
                  have s1 : IntKind.i64.wrap ((k' : Int) + 1 - 1) = (k' : Int) := by rw [show ((k' : Int) + 1 - 1) = k' by omega]; exact IntWalk.i64_in _ (by omega)
                  go_wp2
                  go_quiet (fail)
                  go_wp2
                  clear s1
                  have hS := set2_own (HO6.out.drewN nq) (k' + 1) k' y l HGA.out
                  rw [HDN.out] at hS
                  have hs7 := ownB_keep (hs6.drewN nq) hS.2 (fun k hk => by cases hk; have := HGA.out; omega)
                  have hb7 : Below g (w5.drewN nq) _ := (Below.refl _ _).grown hS.2 hg6 (fun k hk => by cases hk; have := HGA.out; omega)
                  go_roundw
                  case rel => exact ⟨k', by omega, rfl, hS.1, hs7, (bdrewN hb6 nq).trans hb7, HGT.out⟩
                  case measure => simp [intOf]
                · have HF := hide (HFIN.out (.inr (by rw [Nat.add_sub_cancel, hy]; omega)))
                  clear hml hdn hy ho6
                  have s1 : IntKind.i64.wrap ((k' : Int) + 1 - 1) = (k' : Int) := by rw [show ((k' : Int) + 1 - 1) = k' by omega]; exact IntWalk.i64_in _ (by omega)
                  go_wp2
                  go_quiet (fail)
                  go_wp2
                  clear s1
                  go_roundw
                  case rel => exact ⟨i + 1, by omega, by go_num, by rw [HS2.out]; exact hs6.drewN _, by rw [HS1.out, ← HF.out]; exact Lst.of (HO6.out.drewN _), bdrewN HBB.out _⟩
                  case measure => simp [intOf]; omega
    · obtain rfl : n = i := by omega
      rw [← HC.out] at hown
      obtain ⟨A4, c4, rfl, ho⟩ := hown.form
      go_wp2
      go_ret
      exact ⟨A4, c4, rfl, by rw [HG.out]; exact ho.mono (by omega), by rw [HG.out]; exact hb1.trans hbo⟩

end Go.Proofs.Ytfncmgaeecjacaa.deck
