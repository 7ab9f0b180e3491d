/-
  What the statements ask of lists of numbers. Conditions: those of each theorem.
-/
import Derived.Test.YtlfffkjgepgcfaaB0
import Derived.RegionTactic
import Derived.Deep.QuietTactic
import Derived.BigQuiet
namespace Go.Proofs.Ytlfffkjgepgcfaa.byts
open Go.RowKit
open base mem

set_option maxHeartbeats 2000000 in
/-- two lists that read the same are equal -/
theorem b10Ints_same (A : Option Addr) (n c : Nat) (xs : List Int) (A2 : Option Addr) (c2 : Nat) (B B2 : Nat) (w : World) (hR : Rd w B A n xs) (hY : Rd w B2 A2 n xs) (_hn : n ≤ 1048576) :
    Calls Try.prog 45 #[.slice A n c, .slice A2 n c2] w fun e w' => ∃ q, e = .returned (.bool true) ∧ w' = w.drewN q := by
  have hne : ((n : Int) != (n : Int)) = false := by simp
  go_enter Try.func45, Try.ntmps45
  go_wp2
  go_loopw [13] (fun i wr => ∃ k q : Nat, k ≤ n ∧ i = .int .i64 k ∧ Hid (wr = w.drewN q)) (fun i _ => n - (intOf i).toNat)
  case atStart => exact ⟨0, 0, Nat.zero_le _, rfl, rfl⟩
  case round =>
    obtain ⟨k, q, hk, rfl, hw⟩ := hrel
    by_cases hlt : k < n
    · obtain ⟨b, o, rfl, hbB, hc⟩ := (show Rd wr B A n xs by rw [hw.out]; exact hR.drewN q).at_ hlt
      obtain ⟨b2, o2, rfl, hbB2, hc2⟩ := (show Rd wr B2 A2 n xs by rw [hw.out]; exact hY.drewN q).at_ hlt
      obtain ⟨y, hy⟩ := ex_eq (xs.getD k 0)
      rw [hy] at hc hc2
      clear hR hY hy hne
      have hne : (y != y) = false := by simp
      go_upto_region 6 with fail
      go_quiet (fail)
      go_wp2
      go_roundw
      case rel => exact ⟨k + 1, _, by omega, by go_num, (by rw [hw.out]; exact World.drewN_drewN _ _ _)⟩
      case measure => simp [intOf]; omega
    · go_wp2
      go_ret
      exact ⟨q, rfl, hw.out⟩
/-- the sum of the first k -/
def sumT (xs : List Int) : Nat → Int
  | 0 => 0
  | k + 1 => wrap64 (sumT xs k + xs.getD k 0)
theorem sumT_eq {xs : List Int} (h : ∀ i, -1000000000 ≤ xs.getD i 0 ∧ xs.getD i 0 ≤ 1000000000) : ∀ k, k ≤ xs.length → k ≤ 1000 → sumT xs k = (xs.take k).sum ∧ -1000000000 * (k : Int) ≤ (xs.take k).sum ∧ (xs.take k).sum ≤ 1000000000 * (k : Int)
  | 0, _, _ => by simp [sumT]
  | k + 1, hk, hm => by
    obtain ⟨h1, h2, h3⟩ := sumT_eq h k (by omega) (by omega)
    have hx := h k
    have e : xs.getD k 0 = xs[k] := by simp [List.getD, show k < xs.length by omega]
    have e2 : (xs.take (k + 1)).sum = (xs.take k).sum + xs.getD k 0 := by
      rw [List.take_succ_eq_append_getElem (by omega), List.sum_append, e]
      simp
    have hw : wrap64 (sumT xs k + xs.getD k 0) = sumT xs k + xs.getD k 0 := IntWalk.wrap64_in _ ⟨by omega, by omega⟩
    have e3 : sumT xs (k + 1) = wrap64 (sumT xs k + xs.getD k 0) := rfl
    rw [e2, e3, hw, h1]
    refine ⟨rfl, ?_, ?_⟩
    · omega
    · omega
set_option maxHeartbeats 2000000 in
theorem b10Sum_any (A : Option Addr) (n c : Nat) (xs : List Int) (B : Nat) (w : World) (hR : Rd w B A n xs) (hn : n ≤ 1000) (hs : ∀ i, -1000000000 ≤ xs.getD i 0 ∧ xs.getD i 0 ≤ 1000000000) :
    Calls Try.prog 46 #[.slice A n c] w fun e w' => e = .returned (.int .i64 xs.sum) ∧ w = w' := by
  have hl := hR.len
  have hO : sumT xs n = xs.sum := by
    have := (sumT_eq hs n (by omega) hn).1
    rw [this, List.take_of_length_le (by omega)]
  obtain ⟨R, hr⟩ := ex_eq xs.sum
  rw [hr] at hO ⊢
  have HO := hide hO
  clear hO hr hs hl
  have HZ : Hid (sumT xs 0 = 0) := rfl
  go_enter Try.func46, Try.ntmps46
  go_wp2
  go_loop [3, 7] (fun s i => ∃ k : Nat, k ≤ n ∧ i = .int .i64 k ∧ s = .int .i64 (sumT xs k)) (fun _ i => n - (intOf i).toNat)
  case atStart => exact ⟨0, Nat.zero_le _, rfl, by rw [HZ.out]⟩
  case round =>
    obtain ⟨k, hk, rfl, rfl⟩ := hrel
    by_cases hlt : k < n
    · obtain ⟨b, o, rfl, hbB, hc⟩ := hR.at_ hlt
      have HST : Hid (sumT xs (k + 1) = wrap64 (sumT xs k + xs.getD k 0)) := rfl
      obtain ⟨y, hy⟩ := ex_eq (xs.getD k 0)
      obtain ⟨s, hs⟩ := ex_eq (sumT xs k)
      rw [hy] at hc HST
      rw [hs] at HST ⊢
      clear hR hy hs
      go_wp2
      go_round
      case rel => exact ⟨k + 1, by omega, by go_num, by rw [HST.out]⟩
      case measure => simp [intOf]; omega
    · obtain rfl : k = n := by omega
      rw [HO.out]
      go_wp2
      go_ret
      exact ⟨rfl, rfl⟩

end Go.Proofs.Ytlfffkjgepgcfaa.byts
