/-
  Two lists compared, by the statements' own function; what DownUnder makes of small decks. Conditions: those of each theorem.
-/
import Derived.Test.YtfncmgaeecjacaaDown
import Derived.Test.YtfncmgaeecjacaaShuP
import Derived.Deep.QuietTactic
import Derived.BigQuiet
namespace Go.Proofs.Ytfncmgaeecjacaa.deck
open Go.RowKit
open base mem

set_option maxHeartbeats 2000000 in
theorem r8Same_any (A : Option Addr) (n c : Nat) (xs : List Int) (A2 : Option Addr) (c2 : Nat) (ys : List Int) (B B2 : Nat) (w : World) (hR : Rd w B A n xs) (hY : Rd w B2 A2 n ys) (_hn : n ≤ 1048576) :
    Calls Try.prog 57 #[.slice A n c, .slice A2 n c2] w fun e w' => ∃ q, e = .returned (.bool (decide (xs = ys))) ∧ w' = w.drewN q := by
  have hxl := hR.len
  have hyl := hY.len
  have hne : ((n : Int) != (n : Int)) = false := by simp
  obtain ⟨E, hE⟩ := ex_eq (decide (xs = ys))
  rw [hE]
  have HE := hide hE
  clear hE
  go_enter Try.func57, Try.ntmps57
  go_wp2
  go_loopw [5] (fun i wr => ∃ k q : Nat, k ≤ n ∧ i = .int .i64 k ∧ Hid (wr = w.drewN q) ∧ Hid (∀ j, j < k → xs.getD j 0 = ys.getD j 0)) (fun i _ => n - (intOf i).toNat)
  case atStart => exact ⟨0, 0, Nat.zero_le _, rfl, rfl, fun j hj => absurd hj (Nat.not_lt_zero j)⟩
  case round =>
    obtain ⟨k, q, hk, rfl, hw, hall⟩ := hrel
    by_cases hlt : k < n
    · obtain ⟨b, o, rfl, hbB, hc⟩ := (show Rd wr B A n xs by rw [hw.out]; exact hR.drewN q).at_ hlt
      obtain ⟨b2, o2, rfl, hbB2, hc2⟩ := (show Rd wr B2 A2 n ys by rw [hw.out]; exact hY.drewN q).at_ hlt
      by_cases he : xs.getD k 0 = ys.getD k 0
      · have HN := hide (show ∀ j, j < k + 1 → xs.getD j 0 = ys.getD j 0 from fun j hj => by
          rcases Nat.lt_succ_iff_lt_or_eq.1 hj with h | h
          · exact hall.out j h
          · rw [h]; exact he)
        rw [← he] at hc2
        obtain ⟨y, hy⟩ := ex_eq (xs.getD k 0)
        rw [hy] at hc hc2
        clear hR hY hne he hy hall
        have hne : (y != y) = false := by simp
        go_upto_region 6 with fail
        go_quiet (fail)
        go_wp2
        go_roundw
        case rel => exact ⟨k + 1, _, by omega, by go_num, (by rw [hw.out]; exact World.drewN_drewN _ _ _), HN⟩
        case measure => simp [intOf]; omega
      · have HX := hide (show E = false by
          rw [← HE.out]
          exact decide_eq_false fun e => he (by rw [e]))
        obtain ⟨y, hy⟩ := ex_eq (xs.getD k 0)
        obtain ⟨z, hz⟩ := ex_eq (ys.getD k 0)
        rw [hy] at hc he
        rw [hz] at hc2 he
        have hne : (y != z) = true := by rw [bne_iff_ne]; exact he
        clear hR hY he hy hz hall
        go_upto_region 6 with fail
        go_quiet (fail)
        go_wp2
        go_ret
        exact ⟨_, by rw [HX.out]; rfl, (by rw [hw.out]; exact World.drewN_drewN _ _ _)⟩
    · have hxy : xs = ys := ext_at (by omega) fun i hi => hall.out i (by omega)
      have HX := hide (show E = true by rw [← HE.out]; exact decide_eq_true hxy)
      go_wp2
      go_ret
      exact ⟨q, by rw [HX.out]; rfl, hw.out⟩
def duChk (n : Nat) : Bool := deckB (duL n) && ((duL n).getD 0 0 == 0 && (List.range n).all fun i => decide (n ≤ 2 * i) || (duL n).getD i 0 == 2 * (i : Int))
theorem duChk_all : ∀ n : Fin 20, duChk (1 + n) = true := by decide +kernel

end Go.Proofs.Ytfncmgaeecjacaa.deck
