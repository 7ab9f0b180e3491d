/-
  Words for lists of truth values in memory. Conditions: those of each theorem.
-/
import Derived.Test.YtlfffkjgepgcfaaMem
namespace Go.Proofs.Ytlfffkjgepgcfaa.mem
open Go.RowKit
open base

def bvs (xs : List Bool) : List Value := xs.map (Value.bool)
theorem bvs_len (xs : List Bool) : (bvs xs).length = xs.length := by simp [bvs]
theorem bvs_at (xs : List Bool) (k : Nat) (h : k < xs.length) : (bvs xs)[k]? = some (.bool (xs.getD k false)) := by
  simp [bvs, List.getElem?_map, List.getElem?_eq_getElem h, List.getD]
theorem bvs_set (xs : List Bool) (k : Nat) (x : Bool) : (bvs xs).set k (.bool x) = bvs (xs.set k x) := by simp [bvs, List.map_set]
theorem bvs_app (xs ys : List Bool) : bvs xs ++ bvs ys = bvs (xs ++ ys) := by simp [bvs]
theorem bvs_one (xs : List Bool) : ∀ u ∈ bvs xs, u.oneCell' = true := by
  intro u hu
  simp only [bvs, List.mem_map] at hu
  obtain ⟨x, _, rfl⟩ := hu
  rfl

/-- the slice '.slice A n c' reads as xs, from blocks below B -/
def RdB (w : World) (B : Nat) (A : Option Addr) (n : Nat) (xs : List Bool) : Prop :=
  xs.length = n ∧ (0 < n → ∃ b o, A = some ⟨b, o, none⟩ ∧ b < B ∧ ∀ k, k < n → w.cell? ⟨b, o + k, none⟩ = some (.bool (xs.getD k false)))

section
variable {w w' : World} {B B' : Nat} {A : Option Addr} {n c : Nat} {xs : List Bool}
theorem RdB.len (h : RdB w B A n xs) : xs.length = n := h.1
theorem RdB.at_ (h : RdB w B A n xs) {k : Nat} (hk : k < n) : ∃ b o, A = some ⟨b, o, none⟩ ∧ b < B ∧ w.cell? ⟨b, o + k, none⟩ = some (.bool (xs.getD k false)) := by
  obtain ⟨b, o, e, hb, hc⟩ := h.2 (by omega)
  exact ⟨b, o, e, hb, hc k hk⟩
theorem RdB.keep (h : RdB w B A n xs) (hk : ∀ p : Addr, p.block < B → w'.cell? p = w.cell? p) : RdB w' B A n xs :=
  ⟨h.1, fun hn => by
    obtain ⟨b, o, e, hb, hc⟩ := h.2 hn
    exact ⟨b, o, e, hb, fun k hk' => (hk _ hb).trans (hc k hk')⟩⟩
theorem RdB.more (h : RdB w B A n xs) (hB : B ≤ B') : RdB w B' A n xs :=
  ⟨h.1, fun hn => by
    obtain ⟨b, o, e, hb, hc⟩ := h.2 hn
    exact ⟨b, o, e, by omega, hc⟩⟩
theorem RdB.below (h : RdB w B A n xs) (hb : Below B w w') : RdB w' B A n xs := h.keep fun _ hp => hb.cell hp
theorem RdB.drewN (h : RdB w B A n xs) (k : Nat) : RdB (w.drewN k) B A n xs := h
theorem RdB.alloc (h : RdB w B A n xs) (hB : B ≤ w.heap.size) (o : Obj) : RdB (w.alloc o) B A n xs := h.keep fun p hp => World.cell?_alloc_lt w o p (by omega)
theorem RdB.nil : RdB w B A 0 [] := ⟨rfl, fun h => absurd h (by omega)⟩
end

/-- '.slice A n c' lies in a block of its own, from B on, and holds xs -/
def OwnB (w : World) (B : Nat) (A : Option Addr) (n c : Nat) (xs : List Bool) : Prop := w.ownsRow B 4 1 (.slice A n c) n (bvs xs)

section
variable {w w' : World} {B B' : Nat} {A : Option Addr} {n c : Nat} {xs : List Bool}
theorem OwnB.nil (w : World) (B : Nat) : OwnB w B none 0 0 [] := World.ownsRow_nil w B 4 1
theorem OwnB.len (h : OwnB w B A n c xs) : xs.length = n := by have := h.1; simpa [bvs] using this
theorem OwnB.form (h : OwnB w B A n c xs) (hn : 0 < n) : ∃ g, A = some ⟨g, 0, none⟩ ∧ B ≤ g ∧ g < w.heap.size := by
  rcases h.2 with ⟨_, h0⟩ | ⟨g, cap, cur, hv, hb, hg, _⟩
  · omega
  · refine ⟨g, ?_, hb, (Array.getElem?_eq_some_iff.1 hg).1⟩
    injection hv
theorem OwnB.rd (h : OwnB w B A n c xs) : RdB w w.heap.size A n xs := by
  refine ⟨h.len, fun hn => ?_⟩
  obtain ⟨g, rfl, _, hlt⟩ := h.form hn
  refine ⟨g, 0, rfl, hlt, fun k hk => ?_⟩
  have := World.ownsRow.cellAt (h := h) k (by omega)
  rw [Nat.zero_add, this, bvs_at _ _ (by rw [h.len]; exact hk)]
theorem ownB_of_row {v : Value} (h : w.ownsRow B 4 1 v n (bvs xs)) : ∃ A c, v = .slice A n c ∧ OwnB w B A n c xs := by
  rcases h.2 with ⟨rfl, rfl⟩ | ⟨g, cap, cur, rfl, _⟩
  · exact ⟨none, 0, rfl, h⟩
  · exact ⟨some ⟨g, 0, none⟩, cap, rfl, h⟩
theorem OwnB.ownBlock (h : OwnB w B A n c xs) : ∀ k, (Value.slice A n c).ownBlock = some k → B ≤ k ∧ k < w.heap.size := World.ownsRow.lt h
theorem OwnB.below (h : OwnB w B A n c xs) (hb : Below B' w w') (hB : w.heap.size ≤ B') : OwnB w' B A n c xs := by
  refine World.ownsRow.kept (row := none) h ⟨hb.os, hb.tape, hb.output, hb.size, fun k hk _ => hb.block k (by omega)⟩ ?_
  cases (Value.slice A n c).ownBlock <;> simp
theorem OwnB.drewN (h : OwnB w B A n c xs) (k : Nat) : OwnB (w.drewN k) B A n c xs := h
theorem OwnB.mono (h : OwnB w B A n c xs) (hB : B' ≤ B) : OwnB w B' A n c xs := by
  refine ⟨h.1, ?_⟩
  rcases h.2 with h0 | ⟨g, cap, cur, hv, hb, r⟩
  · exact .inl h0
  · exact .inr ⟨g, cap, cur, hv, by omega, r⟩
/-- blocks from 'lo' to below 'hi' may have turned, and new ones come -/
theorem OwnB.kept (h : OwnB w B A n c xs) {row : Option Nat} (hg : w.grownBy w' row) (hr : ∀ k, row = some k → k < B ∨ w.heap.size ≤ k) : OwnB w' B A n c xs := by
  refine World.ownsRow.kept h hg ?_
  cases hv : (Value.slice A n c).ownBlock with
  | none => exact .inl rfl
  | some k =>
    refine .inr fun e => ?_
    have h1 := h.ownBlock k hv
    rcases hr k e.symm with h2 | h2 <;> omega
end

end Go.Proofs.Ytlfffkjgepgcfaa.mem
