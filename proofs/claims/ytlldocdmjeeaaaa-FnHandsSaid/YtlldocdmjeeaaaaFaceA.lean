/-
  Which one of two lists is the first one. Conditions: those of each theorem.
-/
import Derived.Test.YtlldocdmjeeaaaaFaceP
import Derived.Test.YtlldocdmjeeaaaaHand
namespace Go.Proofs.Ytlldocdmjeeaaaa.hand
open Go.RowKit
open base mem deck

theorem isNaN_any (x : Int) (w : World) : Calls Try.prog 134 #[.int .i64 x] w fun e w' => e = .returned (.bool false) ∧ w = w' := by
  go_enter Try.func134, Try.ntmps134
  go_wp2
  go_ret
  exact ⟨by simp, rfl⟩

def cmpI (x y : Int) : Int := if x < y then -1 else if y < x then 1 else 0
theorem cmp_any (x y : Int) (w : World) : Calls Try.prog 111 #[.int .i64 x, .int .i64 y] w fun e w' => e = .returned (.int .i64 (cmpI x y)) ∧ w = w' := by
  by_cases h1 : x < y
  · have h2 : cmpI x y = -1 := by simp [cmpI, h1]
    rw [h2]
    clear h2
    go_enter Try.func111, Try.ntmps111
    go_wp2_with (go_at_call 134; refine (isNaN_any _ _).mono ?_; rintro e w' ⟨rfl, rfl⟩)
    go_ret
    exact ⟨rfl, rfl⟩
  · by_cases h2 : y < x
    · have h3 : cmpI x y = 1 := by simp [cmpI, h1, h2]
      rw [h3]
      clear h3
      go_enter Try.func111, Try.ntmps111
      go_wp2_with (go_at_call 134; refine (isNaN_any _ _).mono ?_; rintro e w' ⟨rfl, rfl⟩)
      go_ret
      exact ⟨rfl, rfl⟩
    · have h3 : cmpI x y = 0 := by simp [cmpI, h1, h2]
      rw [h3]
      clear h3
      go_enter Try.func111, Try.ntmps111
      go_wp2_with (go_at_call 134; refine (isNaN_any _ _).mono ?_; rintro e w' ⟨rfl, rfl⟩)
      go_ret
      exact ⟨rfl, rfl⟩

theorem lex_step {xs ys : List Int} {k : Nat} (h1 : k < xs.length) (h2 : k < ys.length) : lexB (xs.drop k) (ys.drop k) = if xs.getD k 0 = ys.getD k 0 then lexB (xs.drop (k + 1)) (ys.drop (k + 1)) else decide (xs.getD k 0 < ys.getD k 0) := by
  have e1 : xs.getD k 0 = xs[k] := by simp [List.getD, h1]
  have e2 : ys.getD k 0 = ys[k] := by simp [List.getD, h2]
  rw [e1, e2, List.drop_eq_getElem_cons h1, List.drop_eq_getElem_cons h2]
  rfl
theorem lex_end {xs ys : List Int} {k : Nat} (h1 : xs.length ≤ k) : lexB (xs.drop k) (ys.drop k) = false := by
  rw [List.drop_eq_nil_of_le h1]
  cases ys.drop k <;> rfl

set_option maxHeartbeats 2000000 in
theorem l03Before_any (A : Option Addr) (n c : Nat) (xs : List Int) (A2 : Option Addr) (c2 : Nat) (ys : List Int) (w : World) (hR : Rd w w.heap.size A n xs) (hY : Rd w w.heap.size A2 n ys) (hn : n ≤ 1048576) :
    Calls Try.prog 98 #[.slice A n c, .slice A2 n c2] w fun e w' => ∃ q, e = .returned (.bool (lexB xs ys)) ∧ w' = w.drewN q := by
  have hl := hR.len
  have hl2 := hY.len
  have HF : Hid (lexB (xs.drop 0) (ys.drop 0) = lexB xs ys) := rfl
  obtain ⟨R, hr⟩ := ex_eq (lexB xs ys)
  rw [hr] at HF ⊢
  clear hr
  go_enter Try.func98, Try.ntmps98
  go_wp2
  go_loopw [8] (fun i wr => ∃ k q : Nat, k ≤ n ∧ i = .int .i64 k ∧ Hid (wr = w.drewN q) ∧ Hid (lexB (xs.drop k) (ys.drop k) = R)) (fun i _ => n - (intOf i).toNat)
  case atStart => exact ⟨0, 0, Nat.zero_le _, rfl, rfl, HF⟩
  case round =>
    obtain ⟨k, q, hk, rfl, hw, hF⟩ := hrel
    by_cases hlt : k < n
    · obtain ⟨b, o, rfl, hbB, hc⟩ := (show Rd wr w.heap.size A n xs by rw [hw.out]; exact hR.drewN q).at_ hlt
      obtain ⟨b2, o2, rfl, hbB2, hc2⟩ := (show Rd wr w.heap.size A2 n ys by rw [hw.out]; exact hY.drewN q).at_ hlt
      have hst := lex_step (xs := xs) (ys := ys) (k := k) (by omega) (by omega)
      rw [hF.out] at hst
      obtain ⟨x, hx⟩ := ex_eq (xs.getD k 0)
      obtain ⟨y, hy⟩ := ex_eq (ys.getD k 0)
      rw [hx] at hc hst
      rw [hy] at hc2 hst
      clear hR hY hx hy hF HF
      by_cases hxy : x = y
      · subst hxy
        rw [if_pos rfl] at hst
        have HST := hide hst.symm
        clear hst
        have hne : (x != x) = false := by simp
        go_upto_region 4 with fail
        go_quiet (fail)
        go_wp2
        go_roundw
        case rel => exact ⟨k + 1, _, by omega, by go_num, (by rw [hw.out]; exact World.drewN_drewN _ _ _), HST⟩
        case measure => simp [intOf]; omega
      · rw [if_neg hxy] at hst
        have hne : (x != y) = true := by simp [hxy]
        have HST := hide hst
        clear hst hxy
        go_upto_region 4 with fail
        go_quiet (fail)
        go_upto_region 5 with fail
        go_quiet (fail)
        go_wp2
        go_ret
        exact ⟨_, by rw [HST.out]; rfl, by rw [hw.out, World.drewN_drewN, World.drewN_drewN]⟩
    · have hst := lex_end (xs := xs) (ys := ys) (k := k) (by omega)
      rw [hF.out] at hst
      have HST := hide hst
      clear hst hF HF
      go_wp2
      go_ret
      exact ⟨q, by rw [HST.out]; rfl, hw.out⟩

set_option maxHeartbeats 2000000 in
theorem Compare_any (A : Option Addr) (n c : Nat) (xs : List Int) (A2 : Option Addr) (c2 : Nat) (ys : List Int) (w : World) (hR : Rd w w.heap.size A n xs) (hY : Rd w w.heap.size A2 n ys) (hn : n ≤ 1048576) :
    Calls Try.prog 100 #[.slice A n c, .slice A2 n c2] w fun e w' => ∃ r : Int, e = .returned (.int .i64 r) ∧ decide (r < 0) = lexB xs ys ∧ w = w' := by
  have hl := hR.len
  have hl2 := hY.len
  have HF : Hid (lexB (xs.drop 0) (ys.drop 0) = lexB xs ys) := rfl
  obtain ⟨R, hr⟩ := ex_eq (lexB xs ys)
  rw [hr] at HF ⊢
  clear hr
  go_enter Try.func100, Try.ntmps100
  go_wp2
  go_loop [11] (fun i => ∃ k : Nat, k ≤ n ∧ i = .int .i64 k ∧ Hid (lexB (xs.drop k) (ys.drop k) = R)) (fun i => n - (intOf i).toNat)
  case atStart => exact ⟨0, Nat.zero_le _, rfl, HF⟩
  case round =>
    obtain ⟨k, hk, rfl, hF⟩ := hrel
    by_cases hlt : k < n
    · obtain ⟨b, o, rfl, hbB, hc⟩ := hR.at_ hlt
      obtain ⟨b2, o2, rfl, hbB2, hc2⟩ := hY.at_ hlt
      have hst := lex_step (xs := xs) (ys := ys) (k := k) (by omega) (by omega)
      rw [hF.out] at hst
      obtain ⟨x, hx⟩ := ex_eq (xs.getD k 0)
      obtain ⟨y, hy⟩ := ex_eq (ys.getD k 0)
      rw [hx] at hc hst
      rw [hy] at hc2 hst
      have HCM := hide (cmp_any x y w)
      clear hR hY hx hy hF HF
      have dk : decide ((n : Int) ≤ (k : Int)) = false := decide_eq_false (by omega)
      by_cases hxy : x = y
      · subst hxy
        rw [if_pos rfl] at hst
        have HST := hide hst.symm
        have h0 : cmpI x x = 0 := by simp [cmpI]
        rw [h0] at HCM
        clear hst h0
        go_wp2_with (go_at_call 111; refine HCM.out.mono ?_; rintro e w' ⟨rfl, rfl⟩)
        go_round
        case rel => exact ⟨k + 1, by omega, by go_num, HST⟩
        case measure => simp [intOf]; omega
      · rw [if_neg hxy] at hst
        have HST := hide hst
        have h0 : cmpI x y ≠ 0 ∧ decide (cmpI x y < 0) = decide (x < y) := by
          unfold cmpI
          by_cases h1 : x < y
          · simp [h1]
          · have : y < x := by omega
            simp [h1, this]
        obtain ⟨r, hr⟩ := ex_eq (cmpI x y)
        rw [hr] at HCM h0
        obtain ⟨h01, h02⟩ := h0
        have H2 := hide h02
        have hb : (r != 0) = true := by simp [h01]
        clear hst hxy hr h02
        go_wp2_with (go_at_call 111; refine HCM.out.mono ?_; rintro e w' ⟨rfl, rfl⟩)
        go_ret
        exact ⟨r, rfl, by rw [HST.out, H2.out], rfl⟩
    · have hst := lex_end (xs := xs) (ys := ys) (k := k) (by omega)
      rw [hF.out] at hst
      have HST := hide hst
      clear hst hF HF
      go_wp2
      go_ret
      exact ⟨0, rfl, by rw [HST.out]; rfl, rfl⟩

end Go.Proofs.Ytlldocdmjeeaaaa.hand
