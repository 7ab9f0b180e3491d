/-
  How many descents a list of numbers has: the functions of both packages answer the same. Conditions: those of each theorem.
-/
import Derived.Test.YtfncmgaeecjacaaDeck
namespace Go.Proofs.Ytfncmgaeecjacaa.deck
open Go.RowKit
open base mem

def descTo (xs : List Int) : Nat → Nat
  | 0 => 0
  | k + 1 => descTo xs k + (if xs.getD (k + 1) 0 < xs.getD k 0 then 1 else 0)
theorem descTo_le (xs : List Int) (k : Nat) : descTo xs k ≤ k := by
  induction k with
  | zero => simp [descTo]
  | succ k ih => unfold descTo; split <;> omega
def desc (xs : List Int) : Nat := descTo xs (xs.length - 1)
theorem desc_yes {xs : List Int} {k : Nat} (h : xs.getD (k + 1) 0 < xs.getD k 0) : descTo xs (k + 1) = descTo xs k + 1 := by rw [descTo, if_pos h]
theorem desc_no {xs : List Int} {k : Nat} (h : ¬ xs.getD (k + 1) 0 < xs.getD k 0) : descTo xs (k + 1) = descTo xs k := by rw [descTo, if_neg h]; rfl

set_option maxHeartbeats 1000000 in
theorem descents_any (A : Option Addr) (n c : Nat) (xs : List Int) (B : Nat) (w : World) (hR : Rd w B A n xs) (hn : n ≤ 1048576) :
    Calls Try.prog 84 #[.slice A n c] w fun e w' => e = .returned (.int .i64 (desc xs)) ∧ ∃ q, w' = w.drewN q := by
  have HL := hide hR.len
  generalize hE : desc xs = E
  have HE := hide hE
  clear hE
  go_enter Try.func84, Try.ntmps84
  go_wp2
  go_loopw [3, 4] (fun d i wr => ∃ k q : Nat, (k + 1 ≤ n ∨ k = 0) ∧ i = .int .i64 ((k + 1 : Nat) : Int) ∧ d = .int .i64 (descTo xs k) ∧ Hid (wr = w.drewN q)) (fun _ i _ => n - (intOf i).toNat)
  case atStart => exact ⟨0, 0, .inr rfl, rfl, rfl, rfl⟩
  case round =>
    obtain ⟨k, q, hk, rfl, rfl, hw⟩ := hrel
    have hdl := descTo_le xs k
    by_cases hlt : k + 1 < n
    · have hR' : Rd wr B A n xs := by rw [hw.out]; exact hR
      obtain ⟨b, o, hA, hbB, hc⟩ := hR'.at_ hlt
      obtain ⟨b', o', hA', hbB', hc'⟩ := hR'.at_ (show k < n by omega)
      obtain ⟨rfl, rfl⟩ : b = b' ∧ o = o' := by rw [hA] at hA'; simpa using hA'
      subst hA
      have hlt' : ((k + 1 : Nat) : Int) < (n : Int) := by omega
      have hlt'' : (k : Int) < (n : Int) := by omega
      have h0 : (0 : Int) ≤ (k : Int) := by omega
      clear hA' hR hR' hbB hbB' hk
      by_cases hd : xs.getD (k + 1) 0 < xs.getD k 0
      · have HD := hide (desc_yes hd)
        generalize xs.getD (k + 1) 0 = x at *
        generalize xs.getD k 0 = y at *
        go_wp2
        go_quiet (fail)
        go_wp2
        go_roundw
        case rel => exact ⟨k + 1, q + nq, by omega, by go_num, by rw [HD.out]; go_num, hide (by rw [hw.out, World.drewN_drewN])⟩
        case measure => simp [intOf]; omega
      · have HD := hide (desc_no hd)
        generalize xs.getD (k + 1) 0 = x at *
        generalize xs.getD k 0 = y at *
        have hd' : decide (x < y) = false := decide_eq_false hd
        clear hd
        go_wp2
        go_quiet (fail)
        go_wp2
        go_roundw
        case rel => exact ⟨k + 1, q + nq, by omega, by go_num, by rw [HD.out], hide (by rw [hw.out, World.drewN_drewN])⟩
        case measure => simp [intOf]; omega
    · have HF := hide (show descTo xs k = desc xs by unfold desc; rw [HL.out]; congr 1; omega)
      clear hR
      go_wp2
      go_ret
      exact ⟨by rw [← HE.out, ← HF.out]; rfl, q, hw.out⟩

theorem descents_b (A : Option Addr) (n c : Nat) (xs : List Int) (B : Nat) (w : World) (hR : Rd w B A n xs) (hn : n ≤ 1048576) :
    Calls Try.prog 84 #[.slice A n c] w fun e w' => e = .returned (.int .i64 (desc xs)) ∧ Below w.heap.size w w' :=
  (descents_any A n c xs B w hR hn).mono fun _ _ ⟨he, q, hq⟩ => ⟨he, by rw [hq]; exact below_drewN (Below.refl _ _) q⟩

def descOut (xs : List Int) : Nat := if deckB xs then desc xs else 0

set_option maxHeartbeats 1000000 in
theorem impl_DescentsOf (A : Option Addr) (n c : Nat) (xs : List Int) (w : World) (hR : Rd w w.heap.size A n xs) (hn : n ≤ 1048576) (hnc : n ≤ c) :
    Calls Try.prog 55 #[.slice A n c] w fun e w' => e = .returned (.tuple #[.int .i64 (descOut xs), .bool (deckB xs)]) ∧ Below w.heap.size w w' := by
  have hL := IsDeck_b A n c xs w hR (by omega) hnc
  cases hD : deckB xs
  · have hO : descOut xs = 0 := by simp [descOut, hD]
    rw [hD] at hL
    rw [hO]
    have HL := hide hL
    clear hL hO hD hR
    go_enter Try.func55, Try.ntmps55
    go_wp2_with fail
    refine HL.out.mono ?_
    rintro e w' ⟨rfl, hb⟩
    go_wp2
    go_ret2
    exact ⟨rfl, hb⟩
  · have hO : descOut xs = desc xs := by simp [descOut, hD]
    rw [hD] at hL
    rw [hO]
    have HL := hide hL
    have HS := hide (fun w' hb => descents_b A n c xs w.heap.size w' (hR.below hb) hn)
    clear hL hO hD hR
    generalize desc xs = d at *
    go_enter Try.func55, Try.ntmps55
    go_wp2_with fail
    refine HL.out.mono ?_
    rintro e w' ⟨rfl, hb⟩
    go_wp2_with fail
    refine (HS.out _ hb).mono ?_
    rintro e w'' ⟨rfl, hb2⟩
    go_wp2
    go_ret2
    exact ⟨rfl, hb.trans (hb2.mono hb.size)⟩
end Go.Proofs.Ytfncmgaeecjacaa.deck
