/-
  Stacks and prizes: the tests of both packages. Conditions: those of each theorem.
-/
import Derived.Test.YtlfffkjgepgcfaaStk
import Derived.Test.YtlfffkjgepgcfaaPl
import Derived.Test.YtlfffkjgepgcfaaMemF
namespace Go.Proofs.Ytlfffkjgepgcfaa.pl
open Go.RowKit
open base mem fl chance

def sqOk (xs : List Int) : Bool := decide (1 ≤ xs.length ∧ xs.length ≤ 6) && !badB 1000000 1 xs
theorem sqOk_good {xs : List Int} (h : sqOk xs = true) : Good xs ∧ 1 ≤ xs.length := by
  simp only [sqOk, Bool.and_eq_true, decide_eq_true_eq] at h
  obtain ⟨⟨h1, h2⟩, h3⟩ := h
  have h4 : badB 1000000 1 xs = false := by simpa using h3
  exact ⟨⟨h2, fun k hk => (bad_at h4 hk).1, fun k hk => (bad_at h4 hk).2⟩, h1⟩
theorem good_sqOk {xs : List Int} (g : Good xs) (h : 1 ≤ xs.length) : sqOk xs = true := by
  have h1 : badB 1000000 1 xs = false := bad_no fun j hj => inB_mk (g.lo j hj) (g.hi j hj)
  simp [sqOk, h1, h, g.few]

theorem stq1_any (x : Int) (w : World) : Calls Try.prog 84 #[.int .i64 x] w fun e w' => e = .returned (.bool (!inB x 1 1000000)) ∧ w = w' := by
  obtain ⟨E, hE⟩ := ex_eq (inB x 1 1000000)
  rw [hE]
  have HE := hide hE
  clear hE
  go_enter Try.func84, Try.ntmps84
  go_wp2_with (go_at_call 54; refine (within_any _ _ _ _).mono ?_; rintro e w' ⟨rfl, rfl⟩; rw [HE.out])
  go_ret
  exact ⟨rfl, rfl⟩
set_option maxHeartbeats 1000000 in
theorem stqI_any (A : Option Addr) (n c : Nat) (xs : List Int) (B : Nat) (w : World) (hR : Rd w B A n xs) (hn : n ≤ 1048576) :
    Calls Try.prog 86 #[.slice A n c, .func (.func 84) #[] #[]] w fun e w' => (∃ i, e = .returned (.int .i64 i) ∧ ixB (badB 1000000 1 xs) i) ∧ w = w' := by
  have HL := hide hR.len
  go_enter Try.func86, Try.ntmps86
  go_wp2
  go_loop [8] (fun i => ∃ k : Nat, k ≤ n ∧ i = .int .i64 k ∧ Hid (∀ j, j < k → inB (xs.getD j 0) 1 1000000 = true)) (fun i => n - (intOf i).toNat)
  case atStart => exact ⟨0, Nat.zero_le _, rfl, fun j hj => absurd hj (Nat.not_lt_zero j)⟩
  case round =>
    obtain ⟨k, hk, rfl, hno⟩ := hrel
    by_cases hlt : k < n
    · have hkx : k < xs.length := by rw [HL.out]; exact hlt
      obtain ⟨b, o, rfl, hbB, hc⟩ := hR.at_ hlt
      cases hh : inB (xs.getD k 0) 1 1000000
      · have HF := hide (bad_yes hkx hh)
        obtain ⟨x, hx⟩ := ex_eq (xs.getD k 0)
        rw [hx] at hc hh
        have HU := hide (stq1_any x w)
        rw [hh] at HU
        clear hkx hR hh hx
        go_wp2_with (go_at_call 84; refine HU.out.mono ?_; rintro e w' ⟨rfl, rfl⟩)
        go_ret
        exact ⟨⟨_, rfl, .inl ⟨HF.out, by omega, by omega⟩⟩, rfl⟩
      · have HN := hide hh
        obtain ⟨x, hx⟩ := ex_eq (xs.getD k 0)
        rw [hx] at hc hh
        have HU := hide (stq1_any x w)
        rw [hh] at HU
        clear hkx hR hh hx
        go_wp2_with (go_at_call 84; refine HU.out.mono ?_; rintro e w' ⟨rfl, rfl⟩)
        go_round
        case rel => exact ⟨k + 1, by omega, by go_num, fun j hj => by rcases Nat.lt_succ_iff_lt_or_eq.1 hj with h | h; exact hno.out j h; rw [h]; exact HN.out⟩
        case measure => simp [intOf]; omega
    · have hkm : k = n := by omega
      have HN := hide (bad_no (xs := xs) (lo := 1) (hi := 1000000) (fun j hj => hno.out j (by rw [hkm, ← HL.out]; exact hj)))
      clear hkm hR
      go_wp2
      go_ret
      exact ⟨⟨_, rfl, .inr ⟨HN.out, rfl⟩⟩, rfl⟩
theorem stqC_any (A : Option Addr) (n c : Nat) (xs : List Int) (B : Nat) (w : World) (hR : Rd w B A n xs) (hn : n ≤ 1048576) :
    Calls Try.prog 67 #[.slice A n c, .func (.func 84) #[] #[]] w fun e w' => e = .returned (.bool (badB 1000000 1 xs)) ∧ w = w' := by
  have HX := hide (stqI_any A n c xs B w hR hn)
  obtain ⟨E, hE⟩ := ex_eq (badB 1000000 1 xs)
  rw [hE]
  have HE := hide hE
  clear hR hE
  go_enter Try.func67, Try.ntmps67
  go_wp2_with fail
  refine HX.out.mono ?_
  rintro e w' ⟨⟨i, rfl, hi⟩, rfl⟩
  rcases hi with ⟨h1, h2, h3⟩ | ⟨h1, rfl⟩
  · have HF := hide (HE.out.symm.trans h1)
    have hd : decide (0 ≤ i) = true := by simpa using h2
    clear h1 HX
    go_wp2
    go_ret
    exact ⟨by rw [HF.out]; rfl, rfl⟩
  · have HF := hide (HE.out.symm.trans h1)
    clear h1 HX
    go_wp2
    go_ret
    exact ⟨by rw [HF.out]; rfl, rfl⟩

theorem prz1_any (x : Int) (w : World) : Calls Try.prog 68 #[.int .i64 x] w fun e w' => e = .returned (.bool (!inB x 0 1000000)) ∧ w = w' := by
  obtain ⟨E, hE⟩ := ex_eq (inB x 0 1000000)
  rw [hE]
  have HE := hide hE
  clear hE
  go_enter Try.func68, Try.ntmps68
  go_wp2_with (go_at_call 54; refine (within_any _ _ _ _).mono ?_; rintro e w' ⟨rfl, rfl⟩; rw [HE.out])
  go_ret
  exact ⟨rfl, rfl⟩
set_option maxHeartbeats 1000000 in
theorem przI_any (A : Option Addr) (n c : Nat) (xs : List Int) (B : Nat) (w : World) (hR : Rd w B A n xs) (hn : n ≤ 1048576) :
    Calls Try.prog 86 #[.slice A n c, .func (.func 68) #[] #[]] w fun e w' => (∃ i, e = .returned (.int .i64 i) ∧ ixB (badB 1000000 0 xs) i) ∧ w = w' := by
  have HL := hide hR.len
  go_enter Try.func86, Try.ntmps86
  go_wp2
  go_loop [8] (fun i => ∃ k : Nat, k ≤ n ∧ i = .int .i64 k ∧ Hid (∀ j, j < k → inB (xs.getD j 0) 0 1000000 = true)) (fun i => n - (intOf i).toNat)
  case atStart => exact ⟨0, Nat.zero_le _, rfl, fun j hj => absurd hj (Nat.not_lt_zero j)⟩
  case round =>
    obtain ⟨k, hk, rfl, hno⟩ := hrel
    by_cases hlt : k < n
    · have hkx : k < xs.length := by rw [HL.out]; exact hlt
      obtain ⟨b, o, rfl, hbB, hc⟩ := hR.at_ hlt
      cases hh : inB (xs.getD k 0) 0 1000000
      · have HF := hide (bad_yes hkx hh)
        obtain ⟨x, hx⟩ := ex_eq (xs.getD k 0)
        rw [hx] at hc hh
        have HU := hide (prz1_any x w)
        rw [hh] at HU
        clear hkx hR hh hx
        go_wp2_with (go_at_call 68; refine HU.out.mono ?_; rintro e w' ⟨rfl, rfl⟩)
        go_ret
        exact ⟨⟨_, rfl, .inl ⟨HF.out, by omega, by omega⟩⟩, rfl⟩
      · have HN := hide hh
        obtain ⟨x, hx⟩ := ex_eq (xs.getD k 0)
        rw [hx] at hc hh
        have HU := hide (prz1_any x w)
        rw [hh] at HU
        clear hkx hR hh hx
        go_wp2_with (go_at_call 68; refine HU.out.mono ?_; rintro e w' ⟨rfl, rfl⟩)
        go_round
        case rel => exact ⟨k + 1, by omega, by go_num, fun j hj => by rcases Nat.lt_succ_iff_lt_or_eq.1 hj with h | h; exact hno.out j h; rw [h]; exact HN.out⟩
        case measure => simp [intOf]; omega
    · have hkm : k = n := by omega
      have HN := hide (bad_no (xs := xs) (lo := 0) (hi := 1000000) (fun j hj => hno.out j (by rw [hkm, ← HL.out]; exact hj)))
      clear hkm hR
      go_wp2
      go_ret
      exact ⟨⟨_, rfl, .inr ⟨HN.out, rfl⟩⟩, rfl⟩
theorem przC_any (A : Option Addr) (n c : Nat) (xs : List Int) (B : Nat) (w : World) (hR : Rd w B A n xs) (hn : n ≤ 1048576) :
    Calls Try.prog 67 #[.slice A n c, .func (.func 68) #[] #[]] w fun e w' => e = .returned (.bool (badB 1000000 0 xs)) ∧ w = w' := by
  have HX := hide (przI_any A n c xs B w hR hn)
  obtain ⟨E, hE⟩ := ex_eq (badB 1000000 0 xs)
  rw [hE]
  have HE := hide hE
  clear hR hE
  go_enter Try.func67, Try.ntmps67
  go_wp2_with fail
  refine HX.out.mono ?_
  rintro e w' ⟨⟨i, rfl, hi⟩, rfl⟩
  rcases hi with ⟨h1, h2, h3⟩ | ⟨h1, rfl⟩
  · have HF := hide (HE.out.symm.trans h1)
    have hd : decide (0 ≤ i) = true := by simpa using h2
    clear h1 HX
    go_wp2
    go_ret
    exact ⟨by rw [HF.out]; rfl, rfl⟩
  · have HF := hide (HE.out.symm.trans h1)
    clear h1 HX
    go_wp2
    go_ret
    exact ⟨by rw [HF.out]; rfl, rfl⟩

set_option maxHeartbeats 1000000 in
theorem areStacks_any (A : Option Addr) (n c : Nat) (xs : List Int) (B : Nat) (w : World) (hR : Rd w B A n xs) (hn : n ≤ 1048576) :
    Calls Try.prog 64 #[.slice A n c] w fun e w' => e = .returned (.bool (sqOk xs)) ∧ w = w' := by
  have H2 := hide (stqC_any A n c xs B w hR hn)
  have HO := hide (show sqOk xs = (decide (1 ≤ n ∧ n ≤ 6) && !badB 1000000 1 xs) by unfold sqOk; rw [hR.len])
  obtain ⟨E, hE⟩ := ex_eq (sqOk xs)
  rw [hE] at HO ⊢
  obtain ⟨D, hD⟩ := ex_eq (badB 1000000 1 xs)
  rw [hD] at HO
  rw [hD] at H2
  clear hE hD hR
  by_cases h1 : 1 ≤ n
  rotate_left
  · have HF := hide (show E = false by rw [HO.out]; simp [h1])
    go_enter Try.func64, Try.ntmps64
    go_wp2_with fail
    go_ret
    exact ⟨by rw [HF.out]; rfl, rfl⟩
  by_cases h6 : n ≤ 6
  rotate_left
  · have HF := hide (show E = false by rw [HO.out]; simp [h6])
    go_enter Try.func64, Try.ntmps64
    go_wp2_with fail
    go_ret
    exact ⟨by rw [HF.out]; rfl, rfl⟩
  have HF := hide (show E = !D by rw [HO.out]; simp [h1, h6])
  go_enter Try.func64, Try.ntmps64
  go_wp2_with (first | (go_at_call 67; refine H2.out.mono ?_; rintro e w' ⟨rfl, rfl⟩))
  go_ret
  exact ⟨by rw [HF.out]; rfl, rfl⟩

set_option maxHeartbeats 2000000 in
theorem l03Stacks_any (A : Option Addr) (n c : Nat) (xs : List Int) (B : Nat) (w : World) (hR : Rd w B A n xs) (hn : n ≤ 1048576) :
    Calls Try.prog 62 #[.slice A n c] w fun e w' => e = .returned (.bool (sqOk xs)) ∧ w = w' := by
  have HL := hide hR.len
  have HO := hide (show sqOk xs = (decide (1 ≤ n ∧ n ≤ 6) && !badB 1000000 1 xs) by unfold sqOk; rw [hR.len])
  obtain ⟨E, hE⟩ := ex_eq (sqOk xs)
  rw [hE] at HO ⊢
  clear hE
  go_enter Try.func62, Try.ntmps62
  go_wp2
  go_loop [6] (fun i => ∃ k : Nat, k ≤ n ∧ i = .int .i64 k ∧ Hid (∀ j, j < k → inB (xs.getD j 0) 1 1000000 = true)) (fun i => n - (intOf i).toNat)
  case atStart => exact ⟨0, Nat.zero_le _, rfl, fun j hj => absurd hj (Nat.not_lt_zero j)⟩
  case round =>
    obtain ⟨k, hk, rfl, hno⟩ := hrel
    by_cases hlt : k < n
    · have hkx : k < xs.length := by rw [HL.out]; exact hlt
      obtain ⟨b, o, rfl, hbB, hc⟩ := hR.at_ hlt
      cases hh : inB (xs.getD k 0) 1 1000000
      · have HF := hide (bad_yes hkx hh)
        have HE0 := hide (show E = false by rw [HO.out, HF.out]; simp)
        obtain ⟨x, hx⟩ := ex_eq (xs.getD k 0)
        rw [hx] at hc hh
        have HH := hide hh
        clear hkx hR hh hx
        go_wp2_with (go_at_call 53; refine (l00In_any _ _ _ _).mono ?_; rintro e w' ⟨rfl, rfl⟩; rw [HH.out])
        go_ret
        exact ⟨by rw [HE0.out]; rfl, rfl⟩
      · have HN := hide hh
        obtain ⟨x, hx⟩ := ex_eq (xs.getD k 0)
        rw [hx] at hc hh
        have HH := hide hh
        clear hkx hR hh hx
        go_wp2_with (go_at_call 53; refine (l00In_any _ _ _ _).mono ?_; rintro e w' ⟨rfl, rfl⟩; rw [HH.out])
        go_round
        case rel => exact ⟨k + 1, by omega, by go_num, fun j hj => by rcases Nat.lt_succ_iff_lt_or_eq.1 hj with h | h; exact hno.out j h; rw [h]; exact HN.out⟩
        case measure => simp [intOf]; omega
    · have hkm : k = n := by omega
      have HN := hide (bad_no (xs := xs) (lo := 1) (hi := 1000000) (fun j hj => hno.out j (by rw [hkm, ← HL.out]; exact hj)))
      have HO2 := hide (show E = decide (1 ≤ n ∧ n ≤ 6) by rw [HO.out, HN.out]; simp)
      have d1 : decide ((k : Int) < (n : Int)) = false := decide_eq_false (by omega)
      clear hkm hR
      by_cases h1 : 1 ≤ n
      rotate_left
      · have HF := hide (show E = false by rw [HO2.out]; simp [h1])
        go_wp2
        go_ret
        exact ⟨by rw [HF.out]; rfl, rfl⟩
      by_cases h6 : n ≤ 6
      rotate_left
      · have HF := hide (show E = false by rw [HO2.out]; simp [h6])
        go_wp2
        go_ret
        exact ⟨by rw [HF.out]; exact ret_bool (decide_eq_false (by omega)), rfl⟩
      have HF := hide (show E = true by rw [HO2.out]; simp [h1, h6])
      go_wp2
      go_ret
      exact ⟨by rw [HF.out]; exact ret_bool (decide_eq_true (by omega)), rfl⟩

end Go.Proofs.Ytlfffkjgepgcfaa.pl
