/-
  Small functions that the statement on places asks: how far two numbers are apart, whether two lists of float32 words are the same. Conditions: those of each theorem.
-/
import Derived.Test.YtlfffkjgepgcfaaPlw
import Derived.Test.YtlfffkjgepgcfaaB0W
import Derived.Laws.Externs
import Derived.Deep.QuietTactic
import Derived.BigQuiet
namespace Go.Proofs.Ytlfffkjgepgcfaa.pl
open Go.RowKit
open base mem fl chance
open Ieee

theorem gapD_any {a b : Nat} {r : Nat} (h : (if double.order a b = some .lt then double.sub b a else double.sub a b) = some r) (w : World) : Calls Try.prog 49 #[.float .f64 a, .float .f64 b] w fun e w' => e = .returned (.float .f64 r) ∧ w = w' := by
  by_cases h1 : double.order a b = some .lt
  · rw [if_pos h1] at h
    have h2 : (FloatKind.f64.format.order a b == some .lt) = true := by
      show (double.order a b == _) = _
      rw [h1]; rfl
    have r1 : ∀ w, (binOp .sub 29 (.float .f64 b) (.float .f64 a)).run Try.prog w = .ok (.float .f64 r) w := fun w => run_float_arith (P := Try.prog) w .sub 29 .f64 _ _ _ h
    clear h h1
    go_enter Try.func49, Try.ntmps49
    go_wp2
    go_ret
    exact ⟨rfl, rfl⟩
  · rw [if_neg h1] at h
    have h2 : (FloatKind.f64.format.order a b == some .lt) = false := by
      show (double.order a b == _) = _
      cases ho : double.order a b with
      | none => rfl
      | some o => cases o <;> first | rfl | exact absurd ho h1
    have r1 : ∀ w, (binOp .sub 29 (.float .f64 a) (.float .f64 b)).run Try.prog w = .ok (.float .f64 r) w := fun w => run_float_arith (P := Try.prog) w .sub 29 .f64 _ _ _ h
    clear h h1
    go_enter Try.func49, Try.ntmps49
    go_wp2
    go_ret
    exact ⟨rfl, rfl⟩
theorem run_bits (b : Nat) (w : World) : (callFunc 117 #[.float .f32 b]).run Try.prog w = .ok (.value (.int .u32 (b : Int))) w := by
  rw [run_callFunc_extern Try.func117 (by kernel_rfl) (by kernel_rfl) (by kernel_rfl) (e := Extern.MathFloatBits.float32bits) (by kernel_rfl)]
  rfl
set_option maxRecDepth 20000 in
theorem l01Bits_any {b : Nat} {x : Rat} (h : V single b x) (w : World) : Calls Try.prog 109 #[.float .f32 b] w fun e w' => e = .returned (.int .i64 (wrap64 (b : Int))) ∧ w = w' := by
  have ho : FloatKind.f32.format.order b b = some .eq := order_self h
  have hb := run_bits b
  go_enter Try.func109, Try.ntmps109
  go_wp2
  go_ret
  exact ⟨rfl, rfl⟩
theorem l01Same_any {b : Nat} {x : Rat} (h : V single b x) (w : World) : Calls Try.prog 94 #[.float .f32 b, .float .f32 b] w fun e w' => e = .returned (.bool true) ∧ w = w' := by
  have HB := hide (fun W => l01Bits_any h W)
  obtain ⟨z, hz⟩ := ex_eq (wrap64 (b : Int))
  rw [hz] at HB
  clear hz
  go_enter Try.func94, Try.ntmps94
  go_wp2_with (go_at_call 109; refine (HB.out _).mono ?_; rintro e w' ⟨rfl, rfl⟩)
  go_ret
  exact ⟨by simp, rfl⟩
theorem SameNumber_any {b : Nat} {x : Rat} (h : V single b x) (w : World) : Calls Try.prog 76 #[.float .f32 b, .float .f32 b] w fun e w' => e = .returned (.bool true) ∧ w = w' := by
  have HB := hide (fun W => l01Same_any h W)
  go_enter Try.func76, Try.ntmps76
  go_wp2_with fail
  refine (HB.out _).mono ?_
  rintro e w' ⟨rfl, rfl⟩
  go_wp2
  go_ret
  exact ⟨rfl, rfl⟩

set_option maxHeartbeats 1000000 in
theorem b10List_any (A A' : Option Addr) (n c c' : Nat) (xs : List Nat) (w : World) (B B' : Nat) (hR : RdF w B A n xs) (hS : RdF w B' A' n xs) (hN : NumF xs) (hn : n ≤ 9223372036854775807) :
    Calls Try.prog 50 #[.slice A n c, .slice A' n c'] w fun e w' => e = .returned (.bool true) ∧ ∃ q, w' = w.drewN q := by
  have HX := hide hR.len
  have HN := hide hN
  clear hN
  go_enter Try.func50, Try.ntmps50
  go_wp2
  go_loopw [13] (fun i wr => ∃ k q : Nat, k ≤ n ∧ i = .int .i64 k ∧ Hid (wr = w.drewN q)) (fun i _ => n - (intOf i).toNat)
  case atStart => exact ⟨0, 0, Nat.zero_le _, rfl, rfl⟩
  case round =>
    obtain ⟨k, q, hk, rfl, hw⟩ := hrel
    by_cases hlt : k < n
    · have hR' : RdF wr B A n xs := by rw [hw.out]; exact hR
      have hS' : RdF wr B' A' n xs := by rw [hw.out]; exact hS
      obtain ⟨b, o, rfl, hbB, hc⟩ := hR'.at_ hlt
      obtain ⟨b', o', rfl, hbB', hc'⟩ := hS'.at_ hlt
      obtain ⟨x, hx⟩ := HN.out k (by rw [HX.out]; exact hlt)
      have HW := hide (fun W => SameNumber_any hx W)
      have hlt' : (k : Int) < (n : Int) := by omega
      have h0 : (0 : Int) ≤ (k : Int) := by omega
      clear hR' hS' hx HN hR hS hbB hbB'
      generalize xs.getD k 0 = y at *
      go_wp2
      go_quiet (first | (go_at_call 76; exact quiet_eq2 (HW.out _)))
      go_wp2
      go_roundw
      case rel => exact ⟨k + 1, q + nq, by omega, by go_num, hide (by rw [hw.out, World.drewN_drewN])⟩
      case measure => simp [intOf]; omega
    · obtain rfl : k = n := by omega
      go_wp2
      go_ret
      exact ⟨rfl, q, hw.out⟩
end Go.Proofs.Ytlfffkjgepgcfaa.pl
