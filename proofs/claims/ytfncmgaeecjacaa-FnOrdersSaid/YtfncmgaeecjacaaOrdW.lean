/-
  What the statement on orders asks of the program's functions, for decks. Conditions: those of each theorem.
-/
import Derived.Test.YtfncmgaeecjacaaOrdP
import Derived.Test.YtfncmgaeecjacaaUnrankI
import Derived.Test.YtfncmgaeecjacaaShared
import Derived.Test.YtfncmgaeecjacaaR8S
import Derived.Test.YtfncmgaeecjacaaR8D
import Derived.Test.YtfncmgaeecjacaaR0
import Derived.Deep.QuietTactic
import Derived.BigQuiet
namespace Go.Proofs.Ytfncmgaeecjacaa.orb
open Go.RowKit
open base mem byts deck rnk

section
variable {A A2 : Option Addr} {n c n2 c2 : Nat} {xs ys : List Int} {w : World}
theorem o_deck (hd : deckB xs = true) (hn : n ≤ 52) (hR : Rd w w.heap.size A n xs) :
    Calls Try.prog 52 #[.slice A n c] w fun e w' => e = .returned (.bool true) ∧ Below w.heap.size w w' := by
  have h := IsDeck_any A n c xs w hR (by omega)
  rw [hd] at h
  exact h
theorem o_join (hx : deckB xs = true) (hy : deckB ys = true) (hn : n ≤ 52) (hR : Rd w w.heap.size A n xs) (hc : n ≤ c) (hS : Rd w w.heap.size A2 n ys) (hc2 : n ≤ c2) :
    Calls Try.prog 50 #[.slice A n c, .slice A2 n c2] w fun e w' => ∃ A3 c3, e = .returned (.tuple #[.slice A3 n c3, .bool true]) ∧ Own w' w.heap.size A3 n c3 (joinTo xs ys n) ∧ Below w.heap.size w w' := by
  have h := impl_JoinDecks A n c xs A2 n c2 ys w hR (by omega) hc hS (by omega) hc2
  obtain ⟨h1, h2⟩ := join_eq hx hy hR.len hS.len
  rw [h1, h2, joinTo_len] at h
  exact h
theorem o_back (hx : deckB xs = true) (hn : n ≤ 52) (hR : Rd w w.heap.size A n xs) (hc : n ≤ c) :
    Calls Try.prog 51 #[.slice A n c] w fun e w' => ∃ A3 c3, e = .returned (.tuple #[.slice A3 n c3, .bool true]) ∧ Own w' w.heap.size A3 n c3 (places xs) ∧ Below w.heap.size w w' := by
  have h := impl_BackDeck A n c xs w hR (by omega) hc
  have e : backOut xs = places xs := by unfold backOut; rw [if_pos hx]
  rw [e, hx, places_len, hR.len] at h
  exact h
theorem o_cyc (hx : deckB xs = true) (hn : n ≤ 52) (hR : Rd w w.heap.size A n xs) (hc : n ≤ c) :
    Calls Try.prog 42 #[.slice A n c] w fun e w' => ∃ A3 c3, e = .returned (.tuple #[.slice A3 (cycL xs).length c3, .bool true]) ∧ Own w' w.heap.size A3 (cycL xs).length c3 (cycL xs) ∧ Below w.heap.size w w' := by
  have h := impl_CyclesOf A n c xs w hR (by omega) hc
  have e : cycOut xs = cycL xs := by unfold cycOut; rw [if_pos hx]
  rw [e, hx] at h
  exact h
theorem o_order (hx : deckB xs = true) (hn : n ≤ 52) (hR : Rd w w.heap.size A n xs) (hc : n ≤ c) :
    Calls Try.prog 46 #[.slice A n c] w fun e w' => e = .returned (.tuple #[.int .i64 ((ordTo (cycL xs) (cycL xs).length : Nat) : Int), .bool true]) ∧ Below w.heap.size w w' := by
  have h := impl_OrderOf A n c xs w hR (by omega) hc
  have e : ordrOut xs = ordTo (cycL xs) (cycL xs).length := by unfold ordrOut; rw [if_pos hx]
  rw [e, hx] at h
  exact h
theorem o_sign (hx : deckB xs = true) (hn : n ≤ 52) (hR : Rd w w.heap.size A n xs) (hc : n ≤ c) :
    Calls Try.prog 44 #[.slice A n c] w fun e w' => e = .returned (.tuple #[.int .i64 (sgnOut xs), .bool true]) ∧ Below w.heap.size w w' := by
  have h := impl_SignOf A n c xs w hR (by omega) hc
  rw [hx] at h
  exact h
theorem o_rank (hx : deckB xs = true) (hn : n ≤ 20) (hR : Rd w w.heap.size A n xs) (hc : n ≤ c) :
    Calls Try.prog 53 #[.slice A n c] w fun e w' => e = .returned (.tuple #[.int .i64 (rankW xs), .bool true]) ∧ Below w.heap.size w w' := by
  have h := impl_RankOf A n c xs w hR (by omega) hc
  have e : rankOk xs = true := by unfold rankOk; rw [hx, decide_eq_true (by rw [hR.len]; exact hn)]; rfl
  have e2 : rankOut xs = rankW xs := by unfold rankOut; rw [if_pos e]
  rw [e2, e] at h
  exact h
theorem un_ok {r : Int} (h1 : 1 ≤ n) (hn : n ≤ 20) (h0 : 0 ≤ r) (hr : r < facW n) : unOk (n : Int) r = true ∧ unOut (n : Int) r = (urTo n r n).2.1 ∧ (urTo n r n).2.1.length = n := by
  have hf := fac_facts (n - 1) (by omega)
  rw [show n - 1 + 1 = n by omega] at hf
  have hw : wrap64 (facW n - 1) = facW n - 1 := IntWalk.wrap64_in _ ⟨by omega, by omega⟩
  have h : unOk (n : Int) r = true := by
    unfold unOk
    rw [inB_mk (by omega) (by omega), Int.toNat_natCast, hw, inB_mk h0 (by omega)]
    rfl
  refine ⟨h, ?_, (urTo_facts n r hn h0 hr n (Nat.le_refl _)).2.1⟩
  unfold unOut
  rw [if_pos h, Int.toNat_natCast]
theorem o_unrank {r : Int} (h1 : 1 ≤ n) (hn : n ≤ 20) (h0 : 0 ≤ r) (hr : r < facW n) :
    Calls Try.prog 54 #[.int .i64 (n : Int), .int .i64 r] w fun e w' => ∃ A3 c3, e = .returned (.tuple #[.slice A3 n c3, .bool true]) ∧ Own w' w.heap.size A3 n c3 (urTo n r n).2.1 ∧ Below w.heap.size w w' := by
  have h := impl_DeckOfRank (n : Int) r w
  obtain ⟨e1, e2, e3⟩ := un_ok h1 hn h0 hr
  rw [e1, e2, e3] at h
  exact h
theorem o_desc (hx : deckB xs = true) (hn : n ≤ 52) (hR : Rd w w.heap.size A n xs) (hc : n ≤ c) :
    Calls Try.prog 55 #[.slice A n c] w fun e w' => e = .returned (.tuple #[.int .i64 ((descOut xs : Nat) : Int), .bool true]) ∧ Below w.heap.size w w' := by
  have h := impl_DescentsOf A n c xs w hR (by omega) hc
  rw [hx] at h
  exact h
theorem o_runs (hx : deckB xs = true) (hn : n ≤ 52) (hl : xs.length = n) (hR : Rd w w.heap.size A n (places xs)) (hc : n ≤ c) :
    Calls Try.prog 56 #[.slice A n c] w fun e w' => e = .returned (.tuple #[.int .i64 ((descOut xs : Int) + 1), .bool true]) ∧ Below w.heap.size w w' := by
  have h := impl_RisingRuns A n c (places xs) w hR (by omega) hc
  rw [runs_back hx hl, pl_deck hx hl] at h
  exact h
theorem desc_small (hl : xs.length = n) (hn : n ≤ 52) : descOut xs ≤ 52 := by
  unfold descOut desc
  split
  · have := descTo_le xs (xs.length - 1); omega
  · omega
theorem o_draw (h1 : 1 ≤ n) (hn : n ≤ 20) :
    Calls Try.prog 60 #[.int .i64 (n : Int), .int .i64 7] w fun e w' => ∃ A3 c3 s, e = .returned (.tuple #[.slice A3 n c3, .int .i64 s, .bool true]) ∧ Own w' w.heap.size A3 n c3 (drawn n 7).1 ∧ Below w.heap.size w w' := by
  have h := impl_DrawDeck (n : Int) 7 w
  have hk : drawOk (n : Int) 7 = true := by unfold drawOk; rw [inB_mk (by omega) (by omega), inB_mk (by omega) (by omega)]; rfl
  have ho : drawOut (n : Int) 7 = (drawn n 7).1 := by unfold drawOut; rw [if_pos hk]; rfl
  have hl : (drawn n 7).1.length = n := by unfold drawn; rw [drTo_len]
  rw [hk, ho, hl] at h
  exact h.mono fun e w' ⟨A3, c3, he, hO, hb⟩ => ⟨A3, c3, _, he, hO, hb⟩
theorem drawn_deck (h1 : 1 ≤ n) (hn : n ≤ 20) : deckB (drawn n 7).1 = true := deck_drawn n 7 (by omega) (by omega)
theorem o_shared {s wk : Nat} (h1 : 1 ≤ n) (hn : n ≤ 20) (hs : s < 256) (hw1 : 1 ≤ wk) (hw8 : wk ≤ 8) (hR : Rd w w.heap.size A 2 [7, (s : Int)]) (hc : 2 ≤ c) :
    Calls Try.prog 59 #[.int .i64 (n : Int), .slice A 2 c, .int .i64 (wk : Int)] w fun e w' => ∃ A3 c3 v, e = .returned (.tuple #[.slice A3 2 c3, .bool true]) ∧ Own w' w.heap.size A3 2 c3 [rankW (drawn n 7).1, v] ∧ Below w.heap.size w w' := by
  have h := impl_DecksShared (n : Int) A 2 c [7, (s : Int)] (wk : Int) w hR (by omega) hc
  have hk : sharedOk (n : Int) [7, (s : Int)] (wk : Int) = true := by
    unfold sharedOk seedsOk
    rw [inB_mk (by omega) (by omega), inB_mk (show (1 : Int) ≤ (wk : Int) by omega) (by omega)]
    simp only [List.all_cons, List.all_nil]
    rw [inB_mk (by omega) (by omega), inB_mk (by omega) (by omega)]
    rfl
  have ho : sharedOut (n : Int) [7, (s : Int)] (wk : Int) = [rankW (drawn n 7).1, rankW (drawn n ((s : Int)).toNat).1] := by
    unfold sharedOut
    rw [if_pos hk]
    rfl
  rw [hk, ho] at h
  exact h.mono fun e w' ⟨A3, c3, he, hO, hb⟩ => ⟨A3, c3, _, he, hO, hb⟩
end

set_option maxHeartbeats 2000000 in
theorem bef_any (A : Option Addr) (n c : Nat) (xs : List Int) (A2 : Option Addr) (c2 : Nat) (ys : List Int) (B B2 : Nat) (w : World) (hR : Rd w B A n xs) (hY : Rd w B2 A2 n ys) (hn : n ≤ 1048576) :
    Calls Try.prog 58 #[.slice A n c, .slice A2 n c2] w fun e w' => ∃ (r : Bool) (q : Nat), e = .returned (.bool r) ∧ (r = true ↔ Bef xs ys) ∧ w' = w.drewN q := by
  have hxl := hR.len
  have hyl := hY.len
  go_enter Try.func58, Try.ntmps58
  go_wp2
  go_loopw [5] (fun i wr => ∃ k q : Nat, k ≤ n ∧ i = .int .i64 k ∧ Hid (wr = w.drewN q) ∧ Hid (∀ j, j < k → xs.getD j 0 = ys.getD j 0)) (fun i _ => n - (intOf i).toNat)
  case atStart => exact ⟨0, 0, Nat.zero_le _, rfl, rfl, fun j hj => absurd hj (Nat.not_lt_zero j)⟩
  case round =>
    obtain ⟨k, q, hk, rfl, hw, hall⟩ := hrel
    by_cases hlt : k < n
    · obtain ⟨b, o, rfl, hbB, hc⟩ := (show Rd wr B A n xs by rw [hw.out]; exact hR.drewN q).at_ hlt
      obtain ⟨b2, o2, rfl, hbB2, hc2⟩ := (show Rd wr B2 A2 n ys by rw [hw.out]; exact hY.drewN q).at_ hlt
      by_cases he : xs.getD k 0 = ys.getD k 0
      · have HN := hide (show ∀ j, j < k + 1 → xs.getD j 0 = ys.getD j 0 from fun j hj => by
          rcases Nat.lt_succ_iff_lt_or_eq.1 hj with h | h
          · exact hall.out j h
          · rw [h]; exact he)
        rw [← he] at hc2
        obtain ⟨y, hy⟩ := mem.ex_eq (xs.getD k 0)
        rw [hy] at hc hc2
        clear hR hY he hy hall
        have hne : (y != y) = false := by simp
        go_upto_region 4 with fail
        go_quiet (fail)
        go_wp2
        go_roundw
        case rel => exact ⟨k + 1, _, by omega, by go_num, hide (by rw [hw.out]; exact World.drewN_drewN _ _ _), HN⟩
        case measure => simp [intOf]; omega
      · have HX := hide (show decide (xs.getD k 0 < ys.getD k 0) = true ↔ Bef xs ys by
          constructor
          · intro h
            exact ⟨k, by omega, by omega, hall.out, by simpa using h⟩
          · rintro ⟨i, hi1, hi2, h3, h4⟩
            rcases Nat.lt_trichotomy i k with h | h | h
            · have := hall.out i h; omega
            · subst h; simpa using h4
            · exact absurd (h3 k h) he)
        obtain ⟨y, hy⟩ := mem.ex_eq (xs.getD k 0)
        obtain ⟨z, hz⟩ := mem.ex_eq (ys.getD k 0)
        rw [hy] at hc he HX
        rw [hz] at hc2 he HX
        have hne : (y != z) = true := by rw [bne_iff_ne]; exact he
        clear hR hY he hy hz hall
        go_upto_region 4 with fail
        go_quiet (fail)
        go_upto_region 5 with fail
        go_quiet (fail)
        go_wp2
        go_ret
        exact ⟨_, _, rfl, HX.out, (by rw [hw.out, World.drewN_drewN, World.drewN_drewN])⟩
    · have HX := hide (show ¬ Bef xs ys by
        rintro ⟨i, hi1, hi2, h3, h4⟩
        have := hall.out i (by omega)
        omega)
      go_wp2
      go_ret
      exact ⟨false, q, rfl, ⟨fun h => (by cases h), fun h => absurd h HX.out⟩, hw.out⟩

end Go.Proofs.Ytfncmgaeecjacaa.orb
