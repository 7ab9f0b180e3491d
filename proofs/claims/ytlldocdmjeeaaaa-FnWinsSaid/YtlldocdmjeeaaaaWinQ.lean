/-
  What the statement on wins asks of both packages, for hands that are dealt from different cards. Conditions: those of each theorem.
-/
import Derived.Test.YtlldocdmjeeaaaaWinL
import Derived.Test.YtlldocdmjeeaaaaPairs
import Derived.Test.YtlldocdmjeeaaaaWinI
import Derived.Test.YtlldocdmjeeaaaaWinS
import Derived.Test.YtlldocdmjeeaaaaDrwI
namespace Go.Proofs.Ytlldocdmjeeaaaa.hand
open Go.RowKit
open base mem grid

/-- the cards are different, so many for hands of two and a board -/
structure Dealt (cs : List Int) (s k : Nat) : Prop where
  fine : Fine cs
  len : cs.length = 2 * s + k
  s2 : 2 ≤ s
  s4 : s ≤ 4
  k4 : 4 ≤ k
  k5 : k ≤ 5
section
variable {cs : List Int} {s k : Nat}
theorem Dealt.board (h : Dealt cs s k) : (cs.drop (2 * s)).length = k := by rw [List.length_drop, h.len]; omega
theorem Dealt.ok (h : Dealt cs s k) : winOk (pairT cs s) (cs.drop (2 * s)) = true := by
  have hb := h.board
  have := h.k4
  have := h.k5
  exact can_dealt h.fine h.s2 h.s4 (by rw [h.len]; omega) (List.Sublist.refl _) (by omega) (by omega)
theorem Dealt.wins (h : Dealt cs s k) : WI s 60 ((winW (pairT cs s) (cs.drop (2 * s)), winT (pairT cs s) (cs.drop (2 * s))), winN (pairT cs s) (cs.drop (2 * s))) := by
  have hp := pairT_len cs s
  have h1 := win_adds (pss := pairT cs s) (bs := cs.drop (2 * s)) (by rw [hp]; have := h.s2; omega) (by rw [h.board]; exact h.k4)
  rw [hp] at h1
  unfold winW winT winN
  rw [if_pos h.ok, if_pos h.ok, if_pos h.ok]
  exact h1
theorem Dealt.rows (_h : Dealt cs s k) : ∀ p ∈ pairT cs s, p.length ≤ 1048576 := fun p hp => by rw [pairT_two cs s p hp]; omega
theorem Dealt.can (h : Dealt cs s k) (f : Nat) (hf : f ≤ 5) (seed : Nat) (hs : seed < 4294967296) : drwOk (pairT cs s) ((cs.drop (2 * s)).take f) (seed : Int) 6 = true := by
  have h1 : canB (pairT cs s) ((cs.drop (2 * s)).take f) 0 = true := can_dealt h.fine h.s2 h.s4 (by rw [h.len]; omega) (List.take_sublist _ _) (by rw [List.length_take]; omega) (Nat.zero_le _)
  unfold drwOk
  rw [h1, inB_mk (by omega) (by omega), inB_mk (by omega) (by omega)]
  rfl
/-- the counts of draws are small -/
structure Few (s : Nat) (ws ts : List Int) : Prop where
  lw : ws.length = s
  lt : ts.length = s
  w0 : ∀ i, 0 ≤ ws.getD i 0 ∧ ws.getD i 0 ≤ 6
  t0 : ∀ i, 0 ≤ ts.getD i 0 ∧ ts.getD i 0 ≤ 6
  sum : ws.sum ≤ 6
theorem Dealt.drawn (h : Dealt cs s k) (f : Nat) (hf : f ≤ 5) (seed : Nat) (hs : seed < 4294967296) : Few s (drwW (pairT cs s) ((cs.drop (2 * s)).take f) (seed : Int) 6) (drwT (pairT cs s) ((cs.drop (2 * s)).take f) (seed : Int) 6) := by
  have hk := h.can f hf seed hs
  obtain ⟨_, hg, h5, _, _⟩ := drw_parts hk
  have e6 : (6 : Int).toNat = 6 := rfl
  have e7 : ((seed : Nat) : Int).toNat = seed := by omega
  obtain ⟨⟨a1, a2⟩, a3⟩ := dw_adds hg h5 hs 6 (by omega)
  obtain ⟨_, l1, l2⟩ := dwT_facts hg h5 hs 6
  unfold drwW drwT
  rw [if_pos hk, if_pos hk, e6, e7]
  rw [pairT_len] at l1 l2
  exact ⟨l1, l2, a1, a2, a3⟩
theorem Dealt.impl (h : Dealt cs s k) (A : Option Addr) (c : Nat) (ts : List Sl) (A2 : Option Addr) (c2 : Nat) (w : World) (hR : RdS w w.heap.size A s ts) (he : con ts = pairT cs s) (hY : Rd w w.heap.size A2 k (cs.drop (2 * s))) (hnc : k ≤ c2) :
    Calls Try.prog 43 #[.slice A s c, .slice A2 k c2] w fun e w' => ∃ A' C' A3 C3, e = .returned (.tuple #[.slice A' s C', .slice A3 s C3, .int .i64 (winN (pairT cs s) (cs.drop (2 * s))), .bool true]) ∧
      Own w' w.heap.size A' s C' (winW (pairT cs s) (cs.drop (2 * s))) ∧ Own w' w.heap.size A3 s C3 (winT (pairT cs s) (cs.drop (2 * s))) ∧ Below w.heap.size w w' := by
  have h1 := impl_WinCounts A s c ts _ A2 k c2 _ w hR he (by have := h.s4; omega) h.rows hY (by have := h.k5; omega) hnc
  have hw := h.wins
  rw [show (winW (pairT cs s) (cs.drop (2 * s))).length = s from hw.lw, show (winT (pairT cs s) (cs.drop (2 * s))).length = s from hw.lt, h.ok] at h1
  exact h1.mono fun e w' ⟨a, b, c, d, h1, h2, h3, _, h4⟩ => ⟨a, b, c, d, h1, h2, h3, h4⟩
theorem Dealt.spec (h : Dealt cs s k) (A : Option Addr) (c : Nat) (ts : List Sl) (A2 : Option Addr) (c2 : Nat) (w : World) (hR : RdS w w.heap.size A s ts) (he : con ts = pairT cs s) (hY : Rd w w.heap.size A2 k (cs.drop (2 * s))) (hnc : k ≤ c2) :
    Calls Try.prog 42 #[.slice A s c, .slice A2 k c2] w fun e w' => ∃ A' C' A3 C3, e = .returned (.tuple #[.slice A' s C', .slice A3 s C3, .int .i64 (winN (pairT cs s) (cs.drop (2 * s))), .bool true]) ∧
      Own w' w.heap.size A' s C' (winW (pairT cs s) (cs.drop (2 * s))) ∧ Own w' w.heap.size A3 s C3 (winT (pairT cs s) (cs.drop (2 * s))) ∧ Below w.heap.size w w' := by
  have h1 := spec_WinCounts A s c ts _ A2 k c2 _ w hR he (by have := h.s4; omega) h.rows hY (by have := h.k5; omega) hnc
  have hw := h.wins
  rw [show (winW (pairT cs s) (cs.drop (2 * s))).length = s from hw.lw, show (winT (pairT cs s) (cs.drop (2 * s))).length = s from hw.lt, h.ok] at h1
  exact h1.mono fun e w' ⟨a, b, c, d, h1, h2, h3, _, h4⟩ => ⟨a, b, c, d, h1, h2, h3, h4⟩
theorem Dealt.implD (h : Dealt cs s k) (f seed : Nat) (hf : f ≤ 4) (hs : seed < 4294967296) (A : Option Addr) (c : Nat) (ts : List Sl) (A2 : Option Addr) (c2 : Nat) (w : World) (hR : RdS w w.heap.size A s ts) (he : con ts = pairT cs s) (hY : Rd w w.heap.size A2 f ((cs.drop (2 * s)).take f)) (hnc : f ≤ c2) (hno : A2 = none → c2 = 0) :
    Calls Try.prog 45 #[.slice A s c, .slice A2 f c2, .int .i64 (seed : Int), .int .i64 6] w fun e w' => ∃ A' C' A3 C3, e = .returned (.tuple #[.slice A' s C', .slice A3 s C3, .int .i64 (drwN (pairT cs s) ((cs.drop (2 * s)).take f) (seed : Int) 6), .bool true]) ∧
      Own w' w.heap.size A' s C' (drwW (pairT cs s) ((cs.drop (2 * s)).take f) (seed : Int) 6) ∧ Own w' w.heap.size A3 s C3 (drwT (pairT cs s) ((cs.drop (2 * s)).take f) (seed : Int) 6) ∧ Below w.heap.size w w' := by
  have h1 := impl_DrawnWins A s c ts _ A2 f c2 _ (seed : Int) 6 w hR he (by have := h.s4; omega) h.rows hY (by omega) hnc hno
  have hw := h.drawn f (by omega) seed hs
  rw [hw.lw, hw.lt, h.can f (by omega) seed hs] at h1
  exact h1.mono fun e w' ⟨a, b, c, d, h1, h2, h3, _, h4⟩ => ⟨a, b, c, d, h1, h2, h3, h4⟩
theorem Dealt.specD (h : Dealt cs s k) (f seed : Nat) (hf : f ≤ 4) (hs : seed < 4294967296) (A : Option Addr) (c : Nat) (ts : List Sl) (A2 : Option Addr) (c2 : Nat) (w : World) (hR : RdS w w.heap.size A s ts) (he : con ts = pairT cs s) (hY : Rd w w.heap.size A2 f ((cs.drop (2 * s)).take f)) (hnc : f ≤ c2) (hno : A2 = none → c2 = 0) :
    Calls Try.prog 44 #[.slice A s c, .slice A2 f c2, .int .i64 (seed : Int), .int .i64 6] w fun e w' => ∃ A' C' A3 C3, e = .returned (.tuple #[.slice A' s C', .slice A3 s C3, .int .i64 (drwN (pairT cs s) ((cs.drop (2 * s)).take f) (seed : Int) 6), .bool true]) ∧
      Own w' w.heap.size A' s C' (drwW (pairT cs s) ((cs.drop (2 * s)).take f) (seed : Int) 6) ∧ Own w' w.heap.size A3 s C3 (drwT (pairT cs s) ((cs.drop (2 * s)).take f) (seed : Int) 6) ∧ Below w.heap.size w w' := by
  have h1 := spec_DrawnWins A s c ts _ A2 f c2 _ (seed : Int) 6 w hR he (by have := h.s4; omega) h.rows hY (by omega) hnc hno
  have hw := h.drawn f (by omega) seed hs
  rw [hw.lw, hw.lt, h.can f (by omega) seed hs] at h1
  exact h1.mono fun e w' ⟨a, b, c, d, h1, h2, h3, _, h4⟩ => ⟨a, b, c, d, h1, h2, h3, h4⟩
end

end Go.Proofs.Ytlldocdmjeeaaaa.hand
