/-
  A deck that is drawn from a source of choices is a deck. Conditions: those of each theorem.
-/
import Derived.Test.YtfncmgaeecjacaaSrc
import Derived.Test.YtfncmgaeecjacaaDraw
import Derived.Test.YtfncmgaeecjacaaShuP
namespace Go.Proofs.Ytfncmgaeecjacaa.deck
open Go.RowKit
open base mem

theorem swap_perm {xs : List Int} {i k : Nat} (hi : i < xs.length) (hk : k < xs.length) : (swapL xs i k).Perm xs := by
  unfold swapL
  rw [getD_eq hi, getD_eq hk]
  rcases Nat.lt_trichotomy i k with h | h | h
  · exact List.set_set_perm hi hk
  · subst h
    simp
  · exact List.set_set_perm hi hk
theorem sr_below {w w' : World} {gs B n c a : Nat} {A : Option Addr} (h : hand.Sr w gs A n c a) (hb : Below B w w') (hg : gs < B) : hand.Sr w' gs A n c a := by
  obtain ⟨s, hs⟩ := h
  exact ⟨s, hs.below hb hg⟩
set_option maxRecDepth 20000 in
set_option maxHeartbeats 4000000 in
theorem l02DrawOk_any (A : Option Addr) (n c : Nat) (zs : List Int) (gs m : Nat) (w : World) (B0 : Nat) (hY : hand.RdY w B0 A n zs) (hn : n ≤ 1048576) (hS : hand.Sr w gs A n c 0) (hB : B0 ≤ gs) (hm1 : 1 ≤ m) (hm : m ≤ 52) :
    Calls Try.prog 80 #[.pointer (some ⟨gs, 0, none⟩), .int .i64 (m : Int)] w fun e w' => ∃ A' c' ds, e = .returned (.slice A' m c') ∧ Own w' w.heap.size A' m c' ds ∧ ds.Perm (news m) ∧ Below gs w w' := by
  have hgl : gs < w.heap.size := by obtain ⟨s, hs⟩ := hS; exact hs.lt
  have HY := hide (fun W (hb : Below gs w W) => hY.below (hb.mono hB))
  have HS := hide hS
  have HN := hide (l02New_any m w (by omega))
  clear hY hS
  go_enter Try.func80, Try.ntmps80
  go_upto_region 2 with (go_at_call 98; refine HN.out.mono ?_; rintro e w1 ⟨A5, c5, rfl, ho5, hb1⟩)
  have hS1 : hand.Sr w1 gs A n c 0 := by obtain ⟨s, hs⟩ := HS.out; exact ⟨s, hs.below hb1 hgl⟩
  have HO5 := hide ho5
  have HB1 := hide (hb1.mono (Nat.le_of_lt hgl))
  have HS1 := hide hS1
  clear ho5 hb1 hS1 HN HS
  go_wp2
  go_loopw [6] (fun i wr => ∃ (k : Nat) (xs : List Int) (a : Nat), k < m ∧ i = .int .i64 (k : Int) ∧ a + k ≤ 60 ∧ Own wr w.heap.size A5 m c5 xs ∧ xs.Perm (news m) ∧ Below gs w wr ∧ hand.Sr wr gs A n c a) (fun i _ => (intOf i).toNat)
  case atStart => exact ⟨m - 1, news m, 0, by omega, congrArg (Value.int .i64) (by omega), by omega, HO5.out, List.Perm.refl _, HB1.out, HS1.out⟩
  case round =>
    obtain ⟨k, xs, a, hk, rfl, ha, ho, hp, hb, hSr⟩ := hrel
    have hxl := ho.len
    by_cases hlt : 0 < k
    · have hP := hand.srcPick_any gs A n c a zs B0 (k + 1) wr ((HY.out wr hb)) hn (by omega) hSr (by omega) (by omega)
      rw [show ((k + 1 : Nat) : Int) = (k : Int) + 1 by omega] at hP
      have HP := hide hP
      obtain ⟨g5, rfl, hg51, hg52⟩ := ho.form (by omega)
      have HO := hide ho
      have HPM := hide hp
      have HB := hide hb
      clear ho hp hb hSr hP HO5 HB1 HS1
      go_upto_region 6 with (go_at_call 99; refine HP.out.mono ?_; clear HP; rintro e w2 ⟨q, rfl, hq, hS2, hg2⟩)
      have hne : g5 ≠ gs := by omega
      have ho2 : Own w2 w.heap.size (some ⟨g5, 0, none⟩) m c5 xs := HO.out.kept hg2 (fun k hk => by have := Option.some.inj hk; omega)
      have hb2 : Below gs w w2 := HB.out.grown hg2 (Nat.le_trans (Nat.le_of_lt hgl) HB.out.size) (fun k hk => by have := Option.some.inj hk; omega)
      have hc1 := World.ownsRow.cellAt (h := ho2) k (by omega)
      rw [ivs_at _ _ (by rw [hxl]; omega)] at hc1
      have hc2 := World.ownsRow.cellAt (h := ho2) q (by omega)
      rw [ivs_at _ _ (by rw [hxl]; omega)] at hc2
      have hf1 := World.ownsRow.frozenAt (h := ho2) k
      have hf2 := World.ownsRow.frozenAt (h := ho2) q
      have HT := hide (swap_own ho2 k q hg51)
      have HB2 := hide hb2
      have HS2 := hide hS2
      have HPP := hide ((swap_perm (i := k) (k := q) (by omega) (by omega)).trans HPM.out)
      have hq52 : q < 52 := by omega
      obtain ⟨X, hX⟩ := ex_eq xs
      by_cases hik : k = q
      · subst hik
        generalize xs.getD k 0 = x at *
        clear ho2 hb2 hS2 hg2 hne HO HPM HB
        go_wp2
        go_roundw
        case rel => exact ⟨k - 1, swapL xs k k, a + 1, by omega, congrArg (Value.int .i64) (by omega), by omega, (HT.out 0).1, HPP.out, HB2.out.trans ((HT.out 0).2.mono (Nat.le_of_lt hgl)), sr_below HS2.out (HT.out 0).2 hgl⟩
        case measure => simp [intOf]; omega
      · have hki : q < k := by omega
        have hki3 : ¬ q = k := by omega
        generalize xs.getD k 0 = x at *
        generalize xs.getD q 0 = y at *
        clear ho2 hb2 hS2 hg2 hne HO HPM HB
        go_wp2
        go_roundw
        case rel => exact ⟨k - 1, swapL xs k q, a + 1, by omega, congrArg (Value.int .i64) (by omega), by omega, (HT.out 0).1, HPP.out, HB2.out.trans ((HT.out 0).2.mono (Nat.le_of_lt hgl)), sr_below HS2.out (HT.out 0).2 hgl⟩
        case measure => simp [intOf]; omega
    · obtain rfl : k = 0 := by omega
      have HO := hide ho
      have HPM := hide hp
      have HB := hide hb
      clear ho hp hb hSr HO5 HB1 HS1 hlt
      go_wp2
      go_ret
      exact ⟨A5, c5, xs, rfl, HO.out, HPM.out, HB.out⟩
theorem R8Deck_any (A : Option Addr) (n c : Nat) (zs : List Int) (m : Nat) (w : World) (hY : hand.RdY w w.heap.size A n zs) (hn : n ≤ 1048576) (hm1 : 1 ≤ m) (hm : m ≤ 52) :
    Calls Try.prog 49 #[.slice A n c, .int .i64 (m : Int)] w fun e w' => ∃ A' c' ds, e = .returned (.slice A' m c') ∧ Own w' w.heap.size A' m c' ds ∧ ds.Perm (news m) ∧ Below w.heap.size w w' := by
  have HY := hide hY
  clear hY
  go_enter Try.func49, Try.ntmps49
  go_upto_region 2 with (go_at_call 79; refine (hand.srcFrom_any A n c w).mono ?_; rintro e w1 ⟨rfl, hS1, hb1, hz1⟩)
  have HD := hide (l02DrawOk_any A n c zs w.heap.size m w1 w.heap.size (HY.out.below hb1) hn hS1 (Nat.le_refl _) hm1 hm)
  have HB1 := hide hb1
  clear hS1 hb1
  go_wp2_with (go_at_call 80; refine HD.out.mono ?_; rintro e w2 ⟨A2, c2, ds, rfl, ho, hp, hb⟩)
  have HO := hide (ho.mono (show w.heap.size ≤ w1.heap.size by omega))
  have HP := hide hp
  have HB := hide (HB1.out.trans hb)
  clear ho hp hb
  go_ret
  exact ⟨A2, c2, ds, rfl, HO.out, HP.out, HB.out⟩
end Go.Proofs.Ytfncmgaeecjacaa.deck
