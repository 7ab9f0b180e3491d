/-
  What FnShuffled asks of the program's functions, for decks. Conditions: those of each theorem.
-/
import Derived.Test.YtfncmgaeecjacaaShuQ
import Derived.Test.YtfncmgaeecjacaaR8S
import Derived.Test.YtfncmgaeecjacaaR8D
import Derived.Test.YtfncmgaeecjacaaR0
namespace Go.Proofs.Ytfncmgaeecjacaa.deck
open Go.RowKit
open base mem grid byts

section
variable {A A2 : Option Addr} {n c n2 c2 : Nat} {xs : List Int} {ys : List Bool} {w : World}
theorem w_rif (hd : deckB xs = true) (hn : n ≤ 52) (hR : Rd w w.heap.size A n xs) (hc : n ≤ c) (hS : RdB w w.heap.size A2 n ys) (hc2 : n ≤ c2) :
    Calls Try.prog 27 #[.slice A n c, .slice A2 n c2] w fun e w' => ∃ A3 c3, e = .returned (.tuple #[.slice A3 n c3, .bool true]) ∧ Own w' w.heap.size A3 n c3 (rifOut xs ys) ∧ Below w.heap.size w w' := by
  have h := impl_RiffleBy A n c xs A2 n c2 ys w hR (by omega) hc hS (by omega) hc2
  have hl : ys.length = xs.length := by rw [hR.len, hS.len]
  rw [(rifOut_perm hd hl).length_eq, hR.len, rif_ok hd hl] at h
  exact h
theorem w_unr (hd : deckB xs = true) (hn : n ≤ 52) (hl : ys.length = xs.length) (hR : Rd w w.heap.size A n (rifOut xs ys)) (hc : n ≤ c) (hS : RdB w w.heap.size A2 n ys) (hc2 : n ≤ c2) :
    Calls Try.prog 18 #[.slice A n c, .slice A2 n c2] w fun e w' => ∃ A3 c3, e = .returned (.tuple #[.slice A3 n c3, .bool true]) ∧ Own w' w.heap.size A3 n c3 xs ∧ Below w.heap.size w w' := by
  have h := impl_UnriffleBy A n c (rifOut xs ys) A2 n c2 ys w hR (by omega) hc hS (by omega) hc2
  have hlx : xs.length = n := by rw [← hl, hS.len]
  obtain ⟨h1, h2⟩ := unr_rif hd hl
  rw [h1, h2, hlx] at h
  exact h
theorem w_cut {k : Nat} (hd : deckB xs = true) (hn : n ≤ 52) (hk : k ≤ n) (hR : Rd w w.heap.size A n xs) (hc : n ≤ c) :
    Calls Try.prog 61 #[.slice A n c, .int .i64 (k : Int)] w fun e w' => ∃ A3 c3, e = .returned (.tuple #[.slice A3 n c3, .bool true]) ∧ Own w' w.heap.size A3 n c3 (cutOut xs (k : Int)) ∧ Below w.heap.size w w' := by
  have h := impl_CutDeck A n c xs (k : Int) w hR (by omega) hc
  have hl := hR.len
  rw [(cut_perm hd (by omega : k ≤ xs.length)).length_eq, hl, cut_ok hd (by omega)] at h
  exact h
theorem w_uncut {k : Nat} (hd : deckB xs = true) (hn : n ≤ 52) (hk : k ≤ n) (hl : xs.length = n) (hR : Rd w w.heap.size A n (cutOut xs (k : Int))) (hc : n ≤ c) :
    Calls Try.prog 61 #[.slice A n c, .int .i64 ((n : Int) - (k : Int))] w fun e w' => ∃ A3 c3, e = .returned (.tuple #[.slice A3 n c3, .bool true]) ∧ Own w' w.heap.size A3 n c3 xs ∧ Below w.heap.size w w' := by
  have h := impl_CutDeck A n c (cutOut xs (k : Int)) ((n : Int) - (k : Int)) w hR (by omega) hc
  obtain ⟨h1, h2⟩ := cut_cut hd (by omega : k ≤ xs.length)
  rw [hl, show ((n - k : Nat) : Int) = (n : Int) - (k : Int) by omega] at h1 h2
  rw [h1, h2, hl] at h
  exact h
theorem w_turn (hd : deckB xs = true) (hn : n ≤ 52) (hR : Rd w w.heap.size A n xs) (hc : n ≤ c) :
    Calls Try.prog 62 #[.slice A n c] w fun e w' => ∃ A3 c3, e = .returned (.tuple #[.slice A3 n c3, .bool true]) ∧ Own w' w.heap.size A3 n c3 xs.reverse ∧ Below w.heap.size w w' := by
  have h := impl_TurnDeck A n c xs w hR (by omega) hc
  rw [turn_eq hd, hd, List.length_reverse, hR.len] at h
  exact h
theorem w_monge (hd : deckB xs = true) (hn : n ≤ 52) (hR : Rd w w.heap.size A n xs) (hc : n ≤ c) :
    Calls Try.prog 29 #[.slice A n c] w fun e w' => ∃ A3 c3, e = .returned (.tuple #[.slice A3 n c3, .bool true]) ∧ Own w' w.heap.size A3 n c3 (monOut xs) ∧ Below w.heap.size w w' := by
  have h := impl_MongeShuffle A n c xs w hR (by omega) hc
  rw [(monOut_perm hd).length_eq, hR.len, hd] at h
  exact h
theorem w_ones (hd : deckB xs = true) (hn : n ≤ 52) (hR : Rd w w.heap.size A n xs) (hc : n ≤ c) (hS : Rd w w.heap.size A2 n (List.replicate n 1)) (hc2 : n ≤ c2) :
    Calls Try.prog 25 #[.slice A n c, .slice A2 n c2] w fun e w' => ∃ A3 c3, e = .returned (.tuple #[.slice A3 n c3, .bool true]) ∧ Own w' w.heap.size A3 n c3 xs.reverse ∧ Below w.heap.size w w' := by
  have h := impl_OverhandBy A n c xs A2 n c2 (List.replicate n 1) w hR (by omega) hc hS (by omega) hc2
  obtain ⟨h1, h2⟩ := ov_ones hd hR.len
  rw [h1, h2, List.length_reverse, hR.len] at h
  exact h
theorem w_whole (hd : deckB xs = true) (hn : n ≤ 52) (hR : Rd w w.heap.size A n xs) (hc : n ≤ c) (hS : Rd w w.heap.size A2 1 [(n : Int)]) (hc2 : 1 ≤ c2) :
    Calls Try.prog 25 #[.slice A n c, .slice A2 1 c2] w fun e w' => ∃ A3 c3, e = .returned (.tuple #[.slice A3 n c3, .bool true]) ∧ Own w' w.heap.size A3 n c3 xs ∧ Below w.heap.size w w' := by
  have h := impl_OverhandBy A n c xs A2 1 c2 [(n : Int)] w hR (by omega) hc hS (by omega) hc2
  obtain ⟨h1, h2⟩ := ov_whole hd hR.len
  rw [h1, h2, hR.len] at h
  exact h
theorem w_runs (hn1 : 1 ≤ n) (hn : n ≤ 52) (hl : ys.length = n) (hR : Rd w w.heap.size A n (rifOut (news n) ys)) (hc : n ≤ c) :
    Calls Try.prog 56 #[.slice A n c] w fun e w' => ∃ r : Int, e = .returned (.tuple #[.int .i64 r, .bool true]) ∧ r ≤ 2 ∧ Below w.heap.size w w' := by
  have h := impl_RisingRuns A n c (rifOut (news n) ys) w hR (by omega) hc
  obtain ⟨h1, h2⟩ := runs_le hl hn1 hn
  rw [h2] at h
  exact h.mono fun e w' ⟨he, hb⟩ => ⟨_, he, h1, hb⟩
theorem w_deck (hd : deckB xs = true) (hn : n ≤ 52) (hR : Rd w w.heap.size A n xs) :
    Calls Try.prog 52 #[.slice A n c] w fun e w' => e = .returned (.bool true) ∧ Below w.heap.size w w' := by
  have h := IsDeck_any A n c xs w hR (by omega)
  rw [hd] at h
  exact h
theorem w_perf {b : Bool} (hd : deckB xs = true) (hn : n ≤ 52) (he : n % 2 = 0) (hR : Rd w w.heap.size A n xs) (hc : n ≤ c) :
    Calls Try.prog 65 #[.slice A n c, .bool b] w fun e w' => ∃ A3 c3, e = .returned (.tuple #[.slice A3 n c3, .bool true]) ∧ Own w' w.heap.size A3 n c3 (perf xs b) ∧ Below w.heap.size w w' := by
  have h := impl_PerfectShuffle A n c xs b w hR (by omega) hc
  have hl := hR.len
  have hk : perfOk xs = true := by unfold perfOk; rw [hd, decide_eq_true (by rw [hl]; exact he)]; rfl
  have ho : perfOut xs b = perf xs b := by unfold perfOut; rw [if_pos hk]
  rw [ho, hk, (perf_perm b (by rw [hl]; exact he)).length_eq, hl] at h
  exact h
theorem w_order {m : Nat} {b : Bool} (hm : m < 12) : ∃ k : Nat, 1 ≤ k ∧ k ≤ 2 * (1 + m) ∧ pfIter (2 * (1 + m)) b k = news (2 * (1 + m)) ∧ (∀ i, 0 < i → i < k → pfIter (2 * (1 + m)) b i ≠ news (2 * (1 + m))) ∧
    ∀ w : World, Calls Try.prog 64 #[.int .i64 ((2 * (1 + m) : Nat) : Int), .bool b] w fun e w' => e = .returned (.tuple #[.int .i64 (k : Int), .bool true]) ∧ Below w.heap.size w w' := by
  have hall := ord_all ⟨m, hm⟩
  have hc : ordChk (2 * (1 + m)) b = true := by
    cases b
    · exact hall.1
    · exact hall.2
  unfold ordChk at hc
  simp only [Bool.and_eq_true] at hc
  obtain ⟨h1, h2, h3⟩ := hc
  have h1 := of_decide_eq_true h1
  have hok : ordOk ((2 * (1 + m) : Nat) : Int) = true := by
    unfold ordOk
    rw [inB_mk (by omega) (by omega), Bool.true_and]
    exact decide_eq_true (by omega)
  refine ⟨ordOut ((2 * (1 + m) : Nat) : Int) b, h1.1, h1.2, ?_, fun i hi0 hi => ?_, fun w => ?_⟩
  · unfold backAt eqL at h2
    exact of_decide_eq_true h2
  · rw [List.all_eq_true] at h3
    have h4 := h3 i (List.mem_range.2 hi)
    rw [Bool.or_eq_true, beq_iff_eq, Bool.not_eq_true'] at h4
    rcases h4 with h4 | h4
    · omega
    · unfold backAt eqL at h4
      exact of_decide_eq_false h4
  · have h := impl_ShuffleOrder ((2 * (1 + m) : Nat) : Int) b w
    rw [hok] at h
    exact h
theorem w_deal {m : Nat} (hd : deckB xs = true) (hn : n ≤ 52) (h1 : 1 ≤ m) (h8 : m ≤ 8) (hR : Rd w w.heap.size A n xs) (hc : n ≤ c) :
    Calls Try.prog 31 #[.slice A n c, .int .i64 (m : Int)] w fun e w' => ∃ A3 c3 us, e = .returned (.tuple #[.slice A3 m c3, .bool true]) ∧ grid.OwnS w' w.heap.size A3 m c3 us ∧ con us = deal xs m n ∧ Below w.heap.size w w' := by
  have h := impl_DealPiles A n c xs (m : Int) w hR (by omega) hc
  have hk : dealOk xs (m : Int) = true := by unfold dealOk; rw [hd, inB_mk (by omega) (by omega)]; rfl
  have ho : dealOut xs (m : Int) = deal xs m n := by unfold dealOut; rw [if_pos hk, Int.toNat_natCast, hR.len]
  rw [ho, hk, deal_len] at h
  exact h
theorem w_gather {m : Nat} {us : List grid.Sl} (hd : deckB xs = true) (hl : xs.length = n) (h1 : 1 ≤ m) (h8 : m ≤ 8) (hR : grid.RdS w w.heap.size A m us) (he : con us = deal xs m n) (hS : Rd w w.heap.size A2 m (news m)) (hc2 : m ≤ c2) :
    Calls Try.prog 38 #[.slice A m c, .slice A2 m c2] w fun e w' => ∃ A3 c3, e = .returned (.tuple #[.slice A3 n c3, .bool true]) ∧ Below w.heap.size w w' := by
  have hn := (deck_len hd).2
  have hflat := deal_flat (xs := xs) (show 0 < m by omega) xs.length (Nat.le_refl _)
  have h := impl_GatherPiles A m c us (deal xs m n) A2 m c2 (news m) w hR he (by omega) (fun p hp => by
    have h2 := flat_len hp
    rw [← hl, hflat.length_eq, List.length_take] at h2
    omega) hS (by omega) hc2
  obtain ⟨g1, g2⟩ := gather_ok hd h1 h8
  rw [← hl] at h
  rw [g1, g2, hl] at h
  exact h.mono fun e w' ⟨A3, c3, he, _, hb⟩ => ⟨A3, c3, he, hb⟩
theorem w_down (h1 : 1 ≤ n) (h20 : n ≤ 20) : deckB (duL n) = true ∧ (duL n).getD 0 0 = 0 ∧ (∀ i, 2 * i < n → (duL n).getD i 0 = 2 * (i : Int)) := by
  have h := duChk_all ⟨n - 1, by omega⟩
  rw [show 1 + (n - 1) = n by omega] at h
  unfold duChk at h
  simp only [Bool.and_eq_true, beq_iff_eq, List.all_eq_true] at h
  refine ⟨h.1, h.2.1, fun i hi => ?_⟩
  have h2 := h.2.2 i (List.mem_range.2 (by omega))
  rw [Bool.or_eq_true, decide_eq_true_iff, beq_iff_eq] at h2
  rcases h2 with h2 | h2
  · omega
  · exact h2
end

end Go.Proofs.Ytfncmgaeecjacaa.deck
