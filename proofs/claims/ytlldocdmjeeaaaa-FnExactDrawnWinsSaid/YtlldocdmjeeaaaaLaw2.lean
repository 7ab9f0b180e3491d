/-
  Words for statements whose results are two lists: one is marked, the other one stays. Conditions: those of each theorem.
-/
import Derived.Test.YtlldocdmjeeaaaaLaw
import Derived.Test.YtlldocdmjeeaaaaApp
namespace Go.Proofs.Ytlldocdmjeeaaaa.mem
open Go.RowKit
open base

theorem Seg.aside {w w' : World} {lo hi : Nat} {A : Option Addr} {n c : Nat} {xs : List Int} {row : Option Nat} (h : Seg w lo hi A n c xs) (hg : w.grownBy w' row) (hne : (Value.slice A n c).ownBlock = none ∨ (Value.slice A n c).ownBlock ≠ row) : Seg w' lo hi A n c xs :=
  ⟨World.ownsRow.kept h.1 hg hne, h.2⟩
theorem markIx (A : Option Addr) (n c : Nat) (xs : List Int) (w : World) (lo hi : Nat) (h : Seg w lo hi A n c xs) (hlo : lo ≤ w.heap.size) (k : Nat) (hn : n ≤ 1048576) (hk : k ≤ 100000000) :
    Calls Try.prog 26 #[.slice A n c, .int .i64 k] w fun e w' => e = .returned (.int .i64 ((k + n : Nat) : Int)) ∧ Seg w' lo hi A n c (marks k n) ∧ w.grownBy w' (Value.slice A n c).ownBlock ∧
      (∃ row, w.grownBy w' row ∧ ∀ k, row = some k → lo ≤ k ∧ k < hi) ∧ Below lo w w' :=
  (markInt64S_any A n c xs w lo h.1 k (by omega) (by omega)).mono fun _ w' ⟨he, ho, hg, hs⟩ =>
    ⟨he, ⟨ho, h.2⟩, hg, ⟨_, hg, fun k hk => ⟨(h.1.ownBlock k hk).1, h.2 k hk⟩⟩,
      ⟨hg.os, hg.tape, hg.output, hg.size, fun k hk => hg.block k (by omega) (fun e => by have := (h.1.ownBlock k e.symm).1; omega)⟩⟩
end Go.Proofs.Ytlldocdmjeeaaaa.mem
