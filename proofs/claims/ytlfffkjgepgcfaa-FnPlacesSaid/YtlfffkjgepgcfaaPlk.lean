/-
  What the statement on places asks of blinds and of hands left. Conditions: those of each theorem.
-/
import Derived.Test.YtlfffkjgepgcfaaBlind
import Derived.Test.YtlfffkjgepgcfaaHandsLeft
namespace Go.Proofs.Ytlfffkjgepgcfaa.pl
open Go.RowKit
open base mem chance

theorem blinds_ok : ∀ a : Nat, a < 50 → blOk (1 + (a : Int)) 3 2 10 = true ∧ (blOut (1 + (a : Int)) 3 2 10).length = 10 ∧ ∀ i, i < 9 → 3 * (blOut (1 + (a : Int)) 3 2 10).getD i 0 ≤ 2 * (blOut (1 + (a : Int)) 3 2 10).getD (i + 1) 0 ∧
    2 * (blOut (1 + (a : Int)) 3 2 10).getD (i + 1) 0 ≤ 3 * (blOut (1 + (a : Int)) 3 2 10).getD i 0 + 1 ∧ 0 ≤ (blOut (1 + (a : Int)) 3 2 10).getD i 0 ∧ (blOut (1 + (a : Int)) 3 2 10).getD i 0 ≤ 100000 := by
  have h : ∀ a : Fin 50, blOk (1 + (a.1 : Int)) 3 2 10 = true ∧ (blOut (1 + (a.1 : Int)) 3 2 10).length = 10 ∧ ∀ i : Fin 9, 3 * (blOut (1 + (a.1 : Int)) 3 2 10).getD i.1 0 ≤ 2 * (blOut (1 + (a.1 : Int)) 3 2 10).getD (i.1 + 1) 0 ∧
    2 * (blOut (1 + (a.1 : Int)) 3 2 10).getD (i.1 + 1) 0 ≤ 3 * (blOut (1 + (a.1 : Int)) 3 2 10).getD i.1 0 + 1 ∧ 0 ≤ (blOut (1 + (a.1 : Int)) 3 2 10).getD i.1 0 ∧ (blOut (1 + (a.1 : Int)) 3 2 10).getD i.1 0 ≤ 100000 := by decide +kernel
  intro a ha
  obtain ⟨h1, h2, h3⟩ := h ⟨a, ha⟩
  exact ⟨h1, h2, fun i hi => h3 ⟨i, hi⟩⟩
theorem hands_ok {k : Nat} (h1 : 1 ≤ k) (h2 : k ≤ 5) : handsLeft.okArgs 500 5 10 1 ((k : Int) + 1) = true ∧ handsLeft.okArgs 0 5 10 1 ((k : Int) + 1) = true ∧ handsLeft.answer 0 5 10 1 ((k : Int) + 1) = 0 := by
  have h : ∀ j : Fin 5, handsLeft.okArgs 500 5 10 1 (((j.1 + 1 : Nat) : Int) + 1) = true ∧ handsLeft.okArgs 0 5 10 1 (((j.1 + 1 : Nat) : Int) + 1) = true ∧ 0 < handsLeft.cost 5 10 1 (((j.1 + 1 : Nat) : Int) + 1) 0 := by decide +kernel
  obtain ⟨a, b, c⟩ := h ⟨k - 1, by omega⟩
  simp only [show k - 1 + 1 = k by omega] at a b c
  refine ⟨a, b, ?_⟩
  unfold handsLeft.answer
  rw [b, if_pos rfl]
  exact handsLeft.run_stop 5 10 1 ((k : Int) + 1) 7000007 0 0 (by omega) c
/-- both packages tell the same of 500, and 0 of nothing -/
theorem hands_same {k : Nat} (h1 : 1 ≤ k) (h2 : k ≤ 5) : ∃ an : Nat,
    (∀ V : World, Calls Try.prog 51 #[.int .i64 500, .int .i64 5, .int .i64 10, .int .i64 1, .int .i64 ((k : Int) + 1)] V fun e w' => e = .returned (.tuple #[.int .i64 (an : Int), .bool true]) ∧ V = w') ∧
    (∀ V : World, Calls Try.prog 52 #[.int .i64 500, .int .i64 5, .int .i64 10, .int .i64 1, .int .i64 ((k : Int) + 1)] V fun e w' => e = .returned (.tuple #[.int .i64 (an : Int), .bool true]) ∧ V = w') ∧
    (∀ V : World, Calls Try.prog 51 #[.int .i64 0, .int .i64 5, .int .i64 10, .int .i64 1, .int .i64 ((k : Int) + 1)] V fun e w' => e = .returned (.tuple #[.int .i64 0, .bool true]) ∧ V = w') := by
  obtain ⟨o1, o2, o3⟩ := hands_ok h1 h2
  have c1 := fun V => handsLeft.impl_any 500 5 10 1 ((k : Int) + 1) V
  have c2 := fun V => handsLeft.spec_any 500 5 10 1 ((k : Int) + 1) V
  have c3 := fun V => handsLeft.impl_any 0 5 10 1 ((k : Int) + 1) V
  generalize handsLeft.answer 500 5 10 1 ((k : Int) + 1) = an at c1 c2
  generalize handsLeft.answer 0 5 10 1 ((k : Int) + 1) = a0 at c3 o3
  generalize handsLeft.okArgs 500 5 10 1 ((k : Int) + 1) = b1 at c1 c2 o1
  generalize handsLeft.okArgs 0 5 10 1 ((k : Int) + 1) = b0 at c3 o2
  subst o1 o2 o3
  exact ⟨an, c1, c2, c3⟩
end Go.Proofs.Ytlfffkjgepgcfaa.pl
