/-
  DeckOfRank of both packages answers the same. Conditions: those of each theorem.
-/
import Derived.Test.YtfncmgaeecjacaaRank
import Derived.Test.YtfncmgaeecjacaaDel
namespace Go.Proofs.Ytfncmgaeecjacaa.deck
open Go.RowKit
open base mem

def urTo (n : Nat) (r0 : Int) : Nat → List Int × List Int × Int
  | 0 => (news n, [], r0)
  | j + 1 => ((urTo n r0 j).1.take ((urTo n r0 j).2.2 / facW (n - 1 - j)).toNat ++ (urTo n r0 j).1.drop (((urTo n r0 j).2.2 / facW (n - 1 - j)).toNat + 1),
      (urTo n r0 j).2.1 ++ [(urTo n r0 j).1.getD ((urTo n r0 j).2.2 / facW (n - 1 - j)).toNat 0], (urTo n r0 j).2.2 % facW (n - 1 - j))
theorem urTo_succ (n : Nat) (r0 : Int) (j : Nat) : urTo n r0 (j + 1) = ((urTo n r0 j).1.take ((urTo n r0 j).2.2 / facW (n - 1 - j)).toNat ++ (urTo n r0 j).1.drop (((urTo n r0 j).2.2 / facW (n - 1 - j)).toNat + 1),
      (urTo n r0 j).2.1 ++ [(urTo n r0 j).1.getD ((urTo n r0 j).2.2 / facW (n - 1 - j)).toNat 0], (urTo n r0 j).2.2 % facW (n - 1 - j)) := by rw [urTo]
theorem fac_facts : ∀ i : Nat, i < 20 → 0 < facW i ∧ facW (i + 1) = ((i : Int) + 1) * facW i ∧ facW (i + 1) < 9223372036854775807 := by decide +kernel
theorem quo_fact {r F : Int} {i : Nat} (hF : 0 < F) (h0 : 0 ≤ r) (h1 : r < ((i : Int) + 1) * F) : (r / F).toNat ≤ i ∧ 0 ≤ r / F ∧ 0 ≤ r % F ∧ r % F < F := by
  have h2 : r / F < (i : Int) + 1 := Int.ediv_lt_of_lt_mul hF h1
  have h3 : 0 ≤ r / F := Int.ediv_nonneg h0 (Int.le_of_lt hF)
  exact ⟨by omega, h3, Int.emod_nonneg _ (by omega), Int.emod_lt_of_pos _ hF⟩
theorem urTo_facts (n : Nat) (r0 : Int) (hn : n ≤ 20) (h0 : 0 ≤ r0) (h1 : r0 < facW n) (j : Nat) (hj : j ≤ n) :
    (urTo n r0 j).1.length = n - j ∧ (urTo n r0 j).2.1.length = j ∧ 0 ≤ (urTo n r0 j).2.2 ∧ (urTo n r0 j).2.2 < facW (n - j) := by
  induction j with
  | zero => exact ⟨by simp [urTo, news_len], rfl, h0, by simpa [urTo] using h1⟩
  | succ j ih =>
    obtain ⟨a, b, c, d⟩ := ih (by omega)
    have hf := fac_facts (n - 1 - j) (by omega)
    rw [show n - j = n - 1 - j + 1 by omega, hf.2.1] at d
    obtain ⟨q1, q2, q3, q4⟩ := quo_fact hf.1 c d
    rw [urTo_succ]
    refine ⟨?_, ?_, q3, ?_⟩
    · simp only [List.length_append, List.length_take, List.length_drop, a]; omega
    · simp [b]
    · rw [show n - (j + 1) = n - 1 - j by omega]; exact q4
def Sep (v u : Value) : Prop := v.ownBlock = none ∨ v.ownBlock ≠ u.ownBlock
theorem Own.alloc {w : World} {B : Nat} {A : Option Addr} {n c : Nat} {xs : List Int} (h : Own w B A n c xs) (o : Obj) : Own (w.alloc o) B A n c xs := World.ownsRow.alloc h o
theorem Sep.new {w : World} {B : Nat} {A : Option Addr} {n c : Nat} {xs : List Int} (h : Own w B A n c xs) : Sep (.slice A n c) (.slice (some ⟨w.heap.size, 0, none⟩) 0 0) := by
  cases hv : (Value.slice A n c).ownBlock with
  | none => exact .inl hv
  | some k =>
    refine .inr ?_
    rw [hv]
    have := h.ownBlock k hv
    intro e
    injection e with e
    simp only at e
    omega
theorem Own.cap_le {w : World} {B : Nat} {A : Option Addr} {n c : Nat} {xs : List Int} (h : Own w B A n c xs) : c ≤ maxLen := by
  rcases h.2 with ⟨h0, _⟩ | ⟨g', cap, cur, hv, _, _, _, hcm, _⟩
  · injection h0 with _ _ e; rw [e]; exact Nat.zero_le _
  · injection hv with _ _ e3; rw [e3]; exact hcm
def unOk (n r : Int) : Bool := inB n 1 20 && inB r 0 (wrap64 (facW n.toNat - 1))
def unOut (n r : Int) : List Int := if unOk n r then (urTo n.toNat r n.toNat).2.1 else []
theorem unOk_facts {n r : Int} (h : unOk n r = true) : ∃ m : Nat, n = m ∧ 1 ≤ m ∧ m ≤ 20 ∧ 0 ≤ r ∧ r < facW m := by
  simp only [unOk, Bool.and_eq_true] at h
  obtain ⟨h1, h2⟩ := h
  obtain ⟨a, b⟩ := inB_yes h1
  obtain ⟨m, rfl⟩ := Int.eq_ofNat_of_zero_le (show 0 ≤ n by omega)
  obtain ⟨c, d⟩ := inB_yes h2
  refine ⟨m, rfl, by omega, by omega, c, ?_⟩
  have hf := fac_facts (m - 1) (by omega)
  have hg := fac_facts m
  rw [show m - 1 + 1 = m by omega] at hf
  have hp : 0 < facW m := by
    rw [hf.2.1]
    exact Int.mul_pos (by omega) hf.1
  rw [show (m : Int).toNat = m from rfl, IntWalk.wrap64_in _ ⟨by omega, by omega⟩] at d
  omega
theorem unOut_len (n r : Int) : (unOut n r).length ≤ 1048576 := by
  unfold unOut
  split
  · next h =>
    obtain ⟨m, rfl, _, h2, h3, h4⟩ := unOk_facts h
    rw [show (m : Int).toNat = m from rfl, (urTo_facts m r h2 h3 h4 m (Nat.le_refl _)).2.1]
    omega
  · simp
theorem tdiv_fact {r F : Int} (hF : 0 < F) (h0 : 0 ≤ r) (h1 : r < 9223372036854775807) : wrap64 (r.tdiv F) = ((r / F).toNat : Int) := by
  rw [Int.tdiv_eq_ediv_of_nonneg h0]
  have h3 : 0 ≤ r / F := Int.ediv_nonneg h0 (Int.le_of_lt hF)
  have h4 : r / F ≤ r := Int.ediv_le_self _ h0
  rw [IntWalk.wrap64_in _ ⟨by omega, by omega⟩]
  omega
theorem div_fact {r F : Int} (hF : 0 < F) (h0 : 0 ≤ r) : r / F = ((r / F).toNat : Int) := by
  have h3 : 0 ≤ r / F := Int.ediv_nonneg h0 (Int.le_of_lt hF)
  omega
theorem tmod_fact {r F : Int} (h0 : 0 ≤ r) : r.tmod F = r % F := Int.tmod_eq_emod_of_nonneg h0

theorem own_cap {w : World} {B : Nat} {A : Option Addr} {n c : Nat} {xs : List Int} (h : Own w B A n c xs) : n ≤ c ∧ c ≤ 9223372036854775807 := by
  rcases h.2 with ⟨h0, h1⟩ | ⟨g', cap, cur, hv, _, _, hnc, hcm, _⟩
  · injection h0 with _ _ e; omega
  · injection hv with _ _ e3; unfold maxLen at hcm; omega
theorem rd_drop {w : World} {B b o : Nat} {n : Nat} {xs : List Int} (h : Rd w B (some ⟨b, o, none⟩) n xs) {k : Nat} (hk : k ≤ n) : Rd w B (some ⟨b, o + k, none⟩) (n - k) (xs.drop k) := by
  refine ⟨by rw [List.length_drop, h.len], fun h0 => ?_⟩
  obtain ⟨b', o', e, hb, hc⟩ := h.2 (by omega)
  obtain ⟨rfl, rfl⟩ : b = b' ∧ o = o' := by simpa using e
  refine ⟨b, o + k, rfl, hb, fun j hj => ?_⟩
  rw [Nat.add_assoc, hc (k + j) (by omega)]
  simp [List.getD]
theorem rd_zero {w : World} {B : Nat} {A : Option Addr} {xs : List Int} (h : xs = []) : Rd w B A 0 xs := by subst h; exact Rd.nil
end Go.Proofs.Ytfncmgaeecjacaa.deck
