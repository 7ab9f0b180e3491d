/-
  More words for lists in memory, and small equations. Conditions: those of each theorem.
-/
import Derived.Test.YtlfffkjgepgcfaaLaw
import Derived.Maps.AppendAt
import Derived.WalkSpells
import Derived.WalkLawsBesides
import Derived.RegionTactic
import Derived.BigRegion
import Derived.Deep.RegionHeld3
import Derived.Deep.Cut
namespace Go.Proofs.Ytlfffkjgepgcfaa.mem
open Go.RowKit
open base

theorem ex_eq {α : Type} (x : α) : ∃ k, x = k := ⟨x, rfl⟩
theorem int_congr {k : IntKind} {a b : Int} (h : a = b) : Value.int k a = Value.int k b := by rw [h]
theorem bool_congr {a b : Bool} (h : a = b) : Value.bool a = Value.bool b := by rw [h]
section
variable {w w' : World} {B B' b o : Nat} {A : Option Addr} {n c : Nat} {xs : List Int}
theorem Rd.take (h : Rd w B A n xs) {k : Nat} (hk : k ≤ n) : Rd w B A k (xs.take k) := by
  refine ⟨by rw [List.length_take, h.len]; omega, fun h0 => ?_⟩
  obtain ⟨b, o, e, hb, hc⟩ := h.2 (by omega)
  refine ⟨b, o, e, hb, fun j hj => ?_⟩
  rw [hc j (by omega)]
  simp [List.getD, hj]
theorem Rd.drop (h : Rd w B (some ⟨b, o, none⟩) n xs) {k : Nat} (hk : k ≤ n) : Rd w B (some ⟨b, o + k, none⟩) (n - k) (xs.drop k) := by
  refine ⟨by rw [List.length_drop, h.len], fun h0 => ?_⟩
  obtain ⟨b', o', e, hb, hc⟩ := h.2 (by omega)
  obtain ⟨rfl, rfl⟩ : b = b' ∧ o = o' := by simpa using e
  refine ⟨b, o + k, rfl, hb, fun j hj => ?_⟩
  rw [Nat.add_assoc, hc (k + j) (by omega)]
  simp [List.getD]
theorem Rd.zero (h : xs = []) : Rd w B A 0 xs := by subst h; exact Rd.nil
theorem Own.cap (h : Own w B A n c xs) : n ≤ c ∧ c ≤ 9223372036854775807 := by
  rcases h.2 with ⟨h0, h1⟩ | ⟨g', cap, cur, hv, _, _, hnc, hcm, _⟩
  · injection h0 with _ _ e; omega
  · injection hv with _ _ e3; unfold maxLen at hcm; omega
theorem Own.nilc (h : Own w B A n c xs) : A = none → c = 0 := by
  rintro rfl
  rcases h.2 with ⟨h0, h1⟩ | ⟨g', cap, cur, hv, _⟩
  · injection h0
  · injection hv with e; cases e
theorem Own.alloc (h : Own w B A n c xs) (o : Obj) : Own (w.alloc o) B A n c xs := World.ownsRow.alloc h o
/-- the blocks of two lists differ -/
def Sep (v u : Value) : Prop := v.ownBlock = none ∨ v.ownBlock ≠ u.ownBlock
end
theorem quiet_eq2 {P : Program} {f : FuncId} {args : Array Value} {w : World} {n : Nat} {v : Value}
    (h : Calls P f args (w.drewN n) fun e w' => e = .returned v ∧ w.drewN n = w') : Calls P f args (w.drewN n) fun e w'' => e = .returned v ∧ ∃ m, w'' = w.drewN m :=
  h.mono fun _ _ ⟨he, hm⟩ => ⟨he, n, hm.symm⟩
theorem getD_eq {α : Type} [Inhabited α] {xs : List α} {k : Nat} {d : α} (h : k < xs.length) : xs.getD k d = xs[k] := by simp [List.getD, h]
theorem bdrewN {B : Nat} {a w : World} (h : Below B a w) (n : Nat) : Below B a (w.drewN n) := ⟨h.os, h.tape, h.output, h.size, h.block⟩
/-- the length that a slice value tells -/
def lenOf : Value → Nat
  | .slice _ n _ => n
  | _ => 0
end Go.Proofs.Ytlfffkjgepgcfaa.mem
