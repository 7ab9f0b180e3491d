/-
  The program's cycles of a deck, and CyclesOf, SignOf, OrderOf of both packages. Conditions: those of each theorem.
-/
import Derived.Test.YtfncmgaeecjacaaCycS
import Derived.Test.YtfncmgaeecjacaaSortI
namespace Go.Proofs.Ytfncmgaeecjacaa.deck
open Go.RowKit
open base mem

def cycOut (xs : List Int) : List Int := if deckB xs then cycL xs else []
theorem cycL_len {xs : List Int} : (cycL xs).length ≤ xs.length := by unfold cycL; rw [srt_len]; exact stC_len2 xs _ _
theorem cycOut_len (xs : List Int) : (cycOut xs).length ≤ 1048576 := by
  unfold cycOut
  split
  · next h =>
    have := (deck_len h).2
    have := cycL_len (xs := xs)
    omega
  · simp
set_option maxHeartbeats 8000000 in
theorem impl_CyclesOf (A : Option Addr) (n c : Nat) (xs : List Int) (w : World) (hR : Rd w w.heap.size A n xs) (hn : n ≤ 1048576) (hnc : n ≤ c) :
    Calls Try.prog 42 #[.slice A n c] w fun e w' => ∃ A2 c2, e = .returned (.tuple #[.slice A2 (cycOut xs).length c2, .bool (deckB xs)]) ∧ Own w' w.heap.size A2 (cycOut xs).length c2 (cycOut xs) ∧ Below w.heap.size w w' := by
  have hL1 := IsDeck_b A n c xs w hR (by omega) hnc
  cases hD : deckB xs
  · have hO : cycOut xs = [] := by simp [cycOut, hD]
    rw [hD] at hL1
    rw [hO]
    have HL1 := hide hL1
    clear hL1 hO hD hR
    go_enter Try.func42, Try.ntmps42
    go_wp2_with fail
    refine HL1.out.mono ?_
    rintro e v1 ⟨rfl, hb⟩
    go_wp2
    go_ret2
    exact ⟨none, 0, rfl, Own.nil _ _, hb⟩
  have hO : cycOut xs = cycL xs := by simp [cycOut, hD]
  have hd := deck_len hD
  rw [hR.len] at hd
  obtain ⟨hn1, hn2⟩ := hd
  have HX := hide hR.len
  have HO := hide (deck_ord hD)
  have HC := hide (show cycL xs = srt (stC xs n n).2 by unfold cycL; rw [hR.len])
  rw [hD] at hL1
  have HL1 := hide hL1
  rw [hO]
  obtain ⟨OUT, hOUT⟩ := ex_eq (cycL xs)
  rw [hOUT] at HC ⊢
  obtain ⟨i0, hi, hz0, hz1, hz2⟩ := info_parts info_bool
  have hz2' : i0.bytes * n ≤ 281474976710656 := by rw [hz2]; omega
  clear hL1 hO hD hz2 hOUT
  go_enter Try.func42, Try.ntmps42
  go_wp2_with fail
  refine HL1.out.mono ?_
  rintro e v1 ⟨rfl, hb⟩
  have hz := hb.size
  have hR1 := hR.below hb
  clear hR HL1
  go_wp2_with (at_make; refine wpList_make_full _ rfl (.tmp 13) (.tmp 13) 23 rfl w.heap.size 4 i0 (.bool false) 1 Try.underlying23 hi hz0 hz1 .i64 .i64 _ _ n rfl rfl rfl rfl hz2' (by unfold maxLen; omega) hz ?_; intro w1 hown hgr)
  obtain ⟨gs, hgs⟩ := ex_eq v1.heap.size
  rw [hgs] at hown hz ⊢
  have hb1 : Below w.heap.size v1 w1 := (Below.refl _ _).grown hgr (by rw [hgs]; exact hz) (fun _ h => by cases h)
  have hown1 : OwnB w1 w.heap.size (some ⟨gs, 0, none⟩) n n (stC xs n 0).1 := by
    unfold OwnB
    simpa [Value.cells, toList_madeCells_one, bvs, stC] using hown
  have hsz : gs + 1 ≤ w1.heap.size := (hown1.ownBlock _ rfl).2
  have hR0 := hR1.below hb1
  clear hown hgr hz2' hi hz0 hz1 hR1 hgs
  obtain ⟨g, hg⟩ := ex_eq w.heap.size
  have HG := hide hg
  rw [hg] at hb hb1 hown1 hR0 hz
  clear hg
  have hggs : g ≤ gs := hz
  go_loopw [5, 6, 7, 8, 18] (fun v _ _ _ ii wr => ∃ i : Nat, i ≤ n ∧ ii = .int .i64 i ∧ OwnB wr g (some ⟨gs, 0, none⟩) n n (stC xs n i).1 ∧ Lst wr (gs + 1) v (stC xs n i).2 ∧ Below g w1 wr) (fun _ _ _ _ ii _ => n - (intOf ii).toNat)
  case atStart => exact ⟨0, Nat.zero_le _, rfl, World.ownsRow.alloc hown1 _, Lst.new w1 hsz, (Below.refl _ _).alloc (by omega) _⟩
  case round =>
    obtain ⟨i, hi, rfl, hseen, hown, hbo⟩ := hrel
    obtain ⟨wo, rfl⟩ : ∃ wo : World, wo = wr := ⟨_, rfl⟩
    have hgo : g ≤ wo.heap.size := by have := hbo.size; omega
    by_cases hlt : i < n
    · obtain ⟨R, hRe⟩ := ex_eq (cycR xs (n + 1) (stC xs n i).1 i 0)
      have HR := hide hRe
      clear hRe
      go_wp2
      go_loopw [7, 8] (fun lg kk wi => ∃ (S : List Bool) (q l f : Nat), lg = .int .i64 l ∧ kk = .int .i64 q ∧ q < n ∧ OwnB wi g (some ⟨gs, 0, none⟩) n n S ∧ Lst wi (gs + 1) u5 (stC xs n i).2 ∧ Below g wo wi ∧ Hid (cycR xs f S q l = R) ∧ Hid (S.count false + 1 ≤ f) ∧ Hid (l + S.count false ≤ n)) (fun lg _ _ => n - (intOf lg).toNat)
      case atStart => exact ⟨(stC xs n i).1, i, 0, n + 1, rfl, rfl, hlt, hseen, hown, Below.refl _ _, HR.out, hide (by have := List.count_le_length (a := false) (l := (stC xs n i).1); rw [stC_len1] at this; omega), hide (by have := List.count_le_length (a := false) (l := (stC xs n i).1); rw [stC_len1] at this; omega)⟩
      case round =>
        obtain ⟨S, q, l, f, rfl, rfl, hq, hseen2, hown2, hbi, hRc, hfc, hlc⟩ := hrel
        obtain ⟨wi, rfl⟩ : ∃ wi : World, wi = wr := ⟨_, rfl⟩
        have hgi : g ≤ wi.heap.size := Nat.le_trans hgo hbi.size
        have hSl := hseen2.len
        have hc1 := World.ownsRow.cellAt (h := hseen2) q (by omega)
        rw [bvs_at _ _ (by rw [hSl]; exact hq)] at hc1
        have hf1 := World.ownsRow.frozenAt (h := hseen2) q
        have hst := World.ownsRow.stored (h := hseen2) q (.bool true)
        rw [bvs_set] at hst
        obtain ⟨y, hy⟩ := ex_eq (S.getD q false)
        rw [hy] at hc1
        cases y
        · obtain ⟨j, hj, hjx⟩ := deck_card HO.out (show q < xs.length by rw [HX.out]; exact hq)
          have hjn : j < n := by rw [← HX.out]; exact hjx
          obtain ⟨b, o, rfl, hbB, hc⟩ := (hR0.below (hbo.trans hbi)).at_ hq
          rw [hj] at hc
          have hcm := count_mark (by rw [hSl]; exact hq) hy
          have hl2 : l + 1 ≤ n := by have := hlc.out; omega
          have HST := hide hst
          have hbw : b ≠ gs := by omega
          have HBW : b < wi.heap.size := by omega
          have hc2 : (wi.setCell ⟨gs, q, none⟩ (.bool true)).cell? ⟨b, o + q, none⟩ = some (.int .i64 j) := by
            rw [World.cell?_setCell_other _ _ _ _ (by intro e; injection e with e; exact hbw e.symm)]; exact hc
          have HNX := hide (show cycR xs (f - 1) (S.set q true) j (l + 1) = R by
            have h1 := hRc.out
            have h2 := hfc.out
            obtain ⟨f', rfl⟩ : ∃ f', f = f' + 1 := ⟨f - 1, by omega⟩
            rw [cycR_step hy, hj] at h1
            exact h1)
          have HF2 := hide (show (S.set q true).count false + 1 ≤ f - 1 by have := hfc.out; omega)
          have HL2 := hide (show l + 1 + (S.set q true).count false ≤ n by have := hlc.out; omega)
          have HOW := hide (Lst.kept hown2 hst.2 (.inr (fun e => by have := (hown2.blk gs e).1; omega)))
          have HBB := hide (hbi.grown hst.2 hgi (fun k hk => by cases hk; exact hggs))
          clear hst hseen2 hown2 hj hy hcm hSl
          go_wp2
          go_roundw
          case rel => exact ⟨S.set q true, j, l + 1, f - 1, by go_num, rfl, hjn, HST.out.1, HOW.out, HBB.out, HNX.out, HF2.out, HL2.out⟩
          case measure => simp [intOf]; omega
        · have hRR := hRc.out
          rw [cycR_stop hy] at hRR
          have hln : l ≤ n := by have := hlc.out; omega
          clear hst hy hSl hRc hfc hlc hf1
          subst hRR
          by_cases hl0 : l = 0
          · subst hl0
            have HS1 := hide (show (stC xs n (i + 1)).2 = (stC xs n i).2 by rw [stC]; simp only; rw [HR.out]; rfl)
            have HS2 := hide (show (stC xs n (i + 1)).1 = S by rw [stC]; simp only; rw [HR.out])
            clear hR0
            go_wp2
            go_roundw
            case rel => exact ⟨i + 1, by omega, by go_num, by rw [HS2.out]; exact hseen2, by rw [HS1.out]; exact hown2, hbo.trans hbi⟩
            case measure => simp [intOf]; omega
          · have HS1 := hide (show (stC xs n (i + 1)).2 = (stC xs n i).2 ++ [(l : Int)] by rw [stC]; simp only; rw [HR.out]; rw [if_neg hl0])
            have HS2 := hide (show (stC xs n (i + 1)).1 = S by rw [stC]; simp only; rw [HR.out])
            have hul : (stC xs n i).2.length ≤ i := stC_len2 xs n i
            have hl1 : (0 : Int) < (l : Int) := by omega
            obtain ⟨U, hU⟩ := ex_eq (stC xs n i).2
            rw [hU] at hown2 HS1 hul
            clear hU hR0
            go_wp2_with (at_builtin; refine wpList_app rfl (.tmp 38) (.tmp 40) rfl (gs + 1) _ U [(l : Int)] rfl (hown2.alloc _) (some ⟨wi.heap.size, 0, none⟩) 1 1 rfl (rd_one wi (l : Int) 2) (fun h => by cases h) (by omega) (by have := (hseen2.ownBlock gs rfl).2; simp; omega) ?_; intro v4 w4 ho4 hg4 hbk4)
            have hb4 : Below g wi w4 := ((Below.refl _ _).alloc hgi _).trans (((hown2.alloc _).grown hg4 (by have := (hseen2.ownBlock gs rfl).2; simp; omega)).mono (by omega))
            have hs4 : OwnB w4 g (some ⟨gs, 0, none⟩) n n S := ownB_keep (World.ownsRow.alloc hseen2 _) hg4 (fun k hk => by have := (hown2.blk k hk).1; omega)
            have ho5 : Lst w4 (gs + 1) v4 (stC xs n (i + 1)).2 := by rw [HS1.out]; exact ho4
            clear hg4 ho4 hbk4 hown2 hseen2
            go_wp2
            go_roundw
            case rel => exact ⟨i + 1, by omega, by go_num, by rw [HS2.out]; exact hs4, ho5, hbo.trans (hbi.trans hb4)⟩
            case measure => simp [intOf]; omega
    · obtain rfl : n = i := by omega
      obtain ⟨A4, c4, rfl, ho⟩ := hown.form
      have HS := hide (Sort_any A4 _ c4 (stC xs n n).2 (gs + 1) wo ho (by have := stC_len2 xs n n; omega))
      go_wp2_with fail
      refine HS.out.mono ?_
      rintro e w5 ⟨rfl, ho5, hg5⟩
      have hb5 : Below g wo w5 := (Below.refl _ _).grown hg5 hgo (fun k hk => by have := (ho.ownBlock k hk).1; omega)
      rw [← HC.out] at ho5
      have HL := hide ho5.len
      go_wp2
      go_ret2
      rw [HL.out]
      exact ⟨A4, c4, rfl, by rw [HG.out]; exact ho5.mono (by omega), by rw [HG.out]; exact hb.trans (hb1.trans (hbo.trans hb5))⟩

theorem spec_CyclesOf (A : Option Addr) (n c : Nat) (xs : List Int) (w : World) (hR : Rd w w.heap.size A n xs) (hn : n ≤ 1048576) (hnc : n ≤ c) :
    Calls Try.prog 41 #[.slice A n c] w fun e w' => ∃ A2 c2, e = .returned (.tuple #[.slice A2 (cycOut xs).length c2, .bool (deckB xs)]) ∧ Own w' w.heap.size A2 (cycOut xs).length c2 (cycOut xs) ∧ Below w.heap.size w w' := by
  have hL1 := l02Deck_b A n c xs w hR (by omega) hnc
  cases hD : deckB xs
  · have hO : cycOut xs = [] := by simp [cycOut, hD]
    rw [hD] at hL1
    rw [hO]
    have HL1 := hide hL1
    clear hL1 hO hD hR
    go_enter Try.func41, Try.ntmps41
    go_wp2_with fail
    refine HL1.out.mono ?_
    rintro e v1 ⟨rfl, hb⟩
    go_wp2
    go_ret2
    exact ⟨none, 0, rfl, Own.nil _ _, hb⟩
  have hO : cycOut xs = cycL xs := by simp [cycOut, hD]
  have hd := deck_len hD
  rw [hR.len] at hd
  obtain ⟨hn1, hn2⟩ := hd
  have HC := hide (fun v h => l02Cycles_any A n c xs v h hn1 hn2 (deck_ord hD))
  rw [hD] at hL1
  have HL1 := hide hL1
  rw [hO]
  obtain ⟨OUT, hOUT⟩ := ex_eq (cycL xs)
  rw [hOUT] at HC ⊢
  clear hL1 hO hD hOUT
  go_enter Try.func41, Try.ntmps41
  go_wp2_with fail
  refine HL1.out.mono ?_
  rintro e v1 ⟨rfl, hb⟩
  go_wp2_with fail
  refine (HC.out v1 ((hR.below hb).more hb.size)).mono ?_
  rintro e v2 ⟨A2, c2, rfl, ho, hb2⟩
  go_wp2
  go_ret2
  exact ⟨A2, c2, rfl, ho.mono hb.size, hb.trans (hb2.mono hb.size)⟩

end Go.Proofs.Ytfncmgaeecjacaa.deck
