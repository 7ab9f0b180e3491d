/-
  Words by which a statement over lists is walked: a list in a block between two bounds, and what each call of the statement leaves of it. Conditions: those of each theorem.
-/
import Derived.Test.YtlfffkjgepgcfaaMemB
import Derived.OpenShut
namespace Go.Proofs.Ytlfffkjgepgcfaa.mem
open Go.RowKit
open base

/-- the list lies in a block of its own, from lo on and below hi -/
def Seg (w : World) (lo hi : Nat) (A : Option Addr) (n c : Nat) (xs : List Int) : Prop := Own w lo A n c xs ∧ ∀ k, (Value.slice A n c).ownBlock = some k → k < hi
section
variable {w w' : World} {lo hi B : Nat} {A : Option Addr} {n c : Nat} {xs : List Int}
theorem Seg.of (h : Own w lo A n c xs) : Seg w lo w.heap.size A n c xs := ⟨h, fun k hk => (h.ownBlock k hk).2⟩
theorem Seg.len (h : Seg w lo hi A n c xs) : xs.length = n := h.1.len
theorem Seg.cap (h : Seg w lo hi A n c xs) : n ≤ c := by
  rcases h.1.2 with ⟨hv, h0⟩ | ⟨g, cap, cur, hv, _, _, hnc, _⟩
  · omega
  · injection hv with _ _ hc; omega
theorem Seg.rd (h : Seg w lo hi A n c xs) (hB : hi ≤ B) : Rd w B A n xs := by
  refine ⟨h.1.len, fun hn => ?_⟩
  obtain ⟨b, o, rfl, _, hc⟩ := h.1.rd.2 hn
  exact ⟨b, o, rfl, Nat.lt_of_lt_of_le (h.2 b rfl) hB, hc⟩
theorem Seg.below (h : Seg w lo hi A n c xs) (hb : Below B w w') (hB : hi ≤ B) : Seg w' lo hi A n c xs := by
  refine ⟨⟨h.1.1, ?_⟩, h.2⟩
  rcases h.1.2 with h0 | ⟨g, cap, cur, hv, hlo, hg, r⟩
  · exact .inl h0
  · refine .inr ⟨g, cap, cur, hv, hlo, ?_, r⟩
    have hgh : g < hi := h.2 g (by rw [hv]; rfl)
    rw [hb.block g (by omega)]
    exact hg
theorem Seg.grown (h : Seg w lo hi A n c xs) {row : Option Nat} (hg : w.grownBy w' row) (hr : ∀ k, row = some k → k < lo ∨ hi ≤ k) : Seg w' lo hi A n c xs := by
  refine ⟨World.ownsRow.kept h.1 hg ?_, h.2⟩
  cases hv : (Value.slice A n c).ownBlock with
  | none => exact .inl rfl
  | some k =>
    refine .inr fun e => ?_
    have h1 := h.1.ownBlock k hv
    have h2 := h.2 k hv
    rcases hr k e.symm with h3 | h3 <;> omega
end

theorem rd_of_row {w : World} {a : Option Addr} {len cap : Nat} {zs : List Int}
    (h : (a = none ∧ len = 0 ∧ cap = 0 ∧ zs = []) ∨ ∃ x, a = some x ∧ len ≤ cap ∧ cap ≤ maxLen ∧ zs.length = cap ∧ (∀ i, i < zs.length → w.cell? (x.add i) = some (.int .i64 (zs.getD i 0))) ∧ ∀ n ∈ zs, (Lit.int .i64 n).wf = true) :
    Rd w w.heap.size a len (zs.take len) ∧ len ≤ cap ∧ len ≤ 9223372036854775807 := by
  rcases h with ⟨rfl, rfl, rfl, rfl⟩ | ⟨x, rfl, hl, hm, hz, hc, _⟩
  · exact ⟨Rd.nil, Nat.le_refl _, by omega⟩
  · refine ⟨⟨by rw [List.length_take]; omega, fun h0 => ?_⟩, hl, by unfold maxLen at hm; omega⟩
    obtain ⟨b, off, rfl, hcell⟩ := ints_at hc (by omega)
    refine ⟨b, off, rfl, ?_, fun k hk => ?_⟩
    · rcases Nat.lt_or_ge b w.heap.size with hlt | hge
      · exact hlt
      · have h1 := hcell 0 (by omega)
        simp [World.cell?, Array.getElem?_eq_none hge] at h1
    · rw [hcell k (by omega)]
      simp [List.getD, hk]

theorem toI (A : Option Addr) (n c : Nat) (xs : List Int) (w : World) (hR : Rd w w.heap.size A n xs) (hn : n ≤ 1048576) :
    Calls Try.prog 29 #[.slice A n c] w fun e w' => ∃ A' c', e = .returned (.slice A' n c') ∧ Seg w' w.heap.size w'.heap.size A' n c' xs ∧ Below w.heap.size w w' :=
  (toInt64S_any A n c xs w hR hn).mono fun _ _ ⟨A', c', he, ho, hb⟩ => ⟨A', c', he, Seg.of ho, hb⟩
theorem eqI (A A' : Option Addr) (n c c' : Nat) (xs : List Int) (w : World) (hR : Rd w w.heap.size A n xs) (hS : Rd w w.heap.size A' n xs) (hn : n ≤ 1048576) :
    Calls Try.prog 25 #[.slice A n c, .slice A' n c'] w fun e w' => e = .returned (.bool true) ∧ Below w.heap.size w w' :=
  (eqInt64S_any A A' n n c c' xs xs w _ _ hR hS (by omega) (by omega)).mono fun _ _ ⟨he, q, hq⟩ => ⟨by rw [he, eqL_self], by rw [hq]; exact below_drewN (Below.refl _ _) q⟩
theorem markI (A : Option Addr) (n c : Nat) (xs : List Int) (w : World) (lo hi : Nat) (h : Seg w lo hi A n c xs) (hlo : lo ≤ w.heap.size) (k : Nat) (hn : n ≤ 1048576) (hk : k ≤ 100000000) :
    Calls Try.prog 26 #[.slice A n c, .int .i64 k] w fun e w' => e = .returned (.int .i64 ((k + n : Nat) : Int)) ∧ Seg w' lo hi A n c (marks k n) ∧
      (∃ row, w.grownBy w' row ∧ ∀ k, row = some k → lo ≤ k ∧ k < hi) ∧ Below lo w w' :=
  (markInt64S_any A n c xs w lo h.1 k (by omega) (by omega)).mono fun _ w' ⟨he, ho, hg, hs⟩ =>
    ⟨he, ⟨ho, h.2⟩, ⟨_, hg, fun k hk => ⟨(h.1.ownBlock k hk).1, h.2 k hk⟩⟩,
      ⟨hg.os, hg.tape, hg.output, hg.size, fun k hk => hg.block k (by omega) (fun e => by have := (h.1.ownBlock k e.symm).1; omega)⟩⟩
theorem heldI (A : Option Addr) (n c : Nat) (w : World) (B : Nat) (k : Nat) (hR : Rd w B A n (marks k n)) (hn : n ≤ 1048576) (hk : k ≤ 100000000) :
    Calls Try.prog 27 #[.slice A n c, .int .i64 k] w fun e w' => e = .returned (.int .i64 ((k + n : Nat) : Int)) ∧ w = w' :=
  heldInt64S_any A n c w B k hR (by omega) (by omega)
end Go.Proofs.Ytlfffkjgepgcfaa.mem
